/- Several texts in one: IntMem, Bounds. -/
import Derived.Maps.AppendAt
import Derived.Lib.BufferMore
import Derived.BigQuiet
import Derived.Test.YtcfachfldanddaaBd42210b3887
import Derived.Test.YtcfachfldanddaaBd329d7f171a
import Derived.Test.YtcfachfldanddaaShelf
import Derived.Test.YtcfachfldanddaaBd6a04bbb789
import Derived.Test.YtcfachfldanddaaBd6b7ba0c9b1
/- Lists of ints that a call owns; how they are sorted. -/
namespace Go.Proofs.Ytcfachfldanddaa
open Go.RowKit Go.Sort

def intEnc (n : Int) : List Value := [.int .i64 n]
theorem intEnc_len (x : Int) : (intEnc x).length = 1 := rfl
theorem int_one1 {a : Int} : ∀ u ∈ (#[.int .i64 a] : Array Value).toList, u.oneCell' = true := by simp [Value.oneCell']
theorem int_one2 {a b : Int} : ∀ u ∈ (#[.int .i64 a, .int .i64 b] : Array Value).toList, u.oneCell' = true := by simp [Value.oneCell']
theorem info_int1 : (Try.prog.info? 3).map (fun i => (i.zero, i.size, i.bytes)) = some (some (.int .i64 0), 1, 8) := by kernel_rfl
theorem info_int2 : ∃ i, Try.prog.info? 3 = some i ∧ i.zero = some (.int .i64 0) ∧ i.size = 1 ∧ i.bytes = 8 := by
  obtain ⟨i0, hi, hzz⟩ := Option.map_eq_some_iff.1 info_int1
  simp only [Prod.mk.injEq] at hzz
  exact ⟨i0, hi, hzz.1, hzz.2.1, hzz.2.2⟩
structure IntsAt (w : World) (A : Option Addr) (c : Nat) (l : List Int) : Prop where
  lc : l.length ≤ c
  cm : c ≤ maxLen
  sl : SlAt RInt 1 w A l
section
variable {w w' : World} {A : Option Addr} {c k base g n : Nat} {l : List Int} {v : Value}
theorem IntsAt.ext (h : IntsAt w A c l) (hb : Below w.heap.size w w') : IntsAt w' A c l := ⟨h.lc, h.cm, h.sl.ext RInt.stable hb⟩
theorem IntsAt.len (h : IntsAt w A c l) : l.length ≤ 9223372036854775807 := Nat.le_trans h.lc h.cm
theorem IntsAt.get (h : IntsAt w A c l) {x : Int} (hx : l[k]? = some x) : ∃ b off, A = some ⟨b, off, none⟩ ∧ b < w.heap.size ∧ w.cell? ⟨b, off + k, none⟩ = some (.int .i64 x) := by
  obtain ⟨b, off, hS⟩ := h.sl
  obtain ⟨h1, h2, h3, _⟩ := hS k x hx
  rw [Nat.mul_one] at h3
  exact ⟨b, off, h1, h2, h3⟩
theorem IntsAt.i64 (h : IntsAt w A c l) : ∀ x, x ∈ l → I64 x := fun x hx => by
  obtain ⟨k, hk⟩ := List.getElem?_of_mem hx
  obtain ⟨b, off, hS⟩ := h.sl
  exact (hS k x hk).2.2.2
theorem own_ints (h : Own intEnc 1 w base 3 v l) (hi : ∀ x, x ∈ l → I64 x) : ∃ A c, v = .slice A l.length c ∧ IntsAt w A c l := by
  obtain ⟨A, c, hv, hS⟩ := Own.slAt (R := RInt) (enc := intEnc) (fun _ => rfl) (fun x hx b o hc => ⟨by have := hc 0 _ rfl; simpa using this, hi x hx⟩) h
  subst hv
  exact ⟨A, c, rfl, h.room.1, h.room.2, hS⟩
theorem IntsAt.flat {b off : Nat} (h : IntsAt w (some ⟨b, off, none⟩) c l) : ∀ (j : Nat) u, (l.flatMap intEnc)[j]? = some u → w.cell? ⟨b, off + j, none⟩ = some u := fun j u hu => by
  have hj : j < l.length := by have := lt_of_get hu; rw [flat_length intEnc_len] at this; omega
  obtain ⟨x, hx⟩ := get_lt hj
  obtain ⟨b', off', e, _, h0⟩ := h.get hx
  obtain ⟨rfl, rfl⟩ : b = b' ∧ off = off' := by simpa using e
  have h4 := flat_at intEnc_len hx (show 0 < 1 by decide)
  rw [Nat.mul_one, Nat.add_zero, hu] at h4
  rw [h0, h4]
  rfl
theorem ints_one (l : List Int) : ∀ u ∈ l.flatMap intEnc, u.oneCell' = true := fun u hu => by
  obtain ⟨x, _, hx⟩ := List.mem_flatMap.1 hu
  simp only [intEnc, List.mem_cons, List.not_mem_nil, or_false] at hx
  rw [hx]; rfl
theorem flatK_int (d : Array Int) (t : Nat) (h : t < d.size) : (flatK intEnc 1 d)[t]! = .int .i64 d[t]! := by
  rw [get_flatK _ _ _ _ (by omega), Nat.div_one, Nat.mod_one]
  rfl
theorem holds_int {d : Array Int} (h : HoldsK intEnc 1 w g 0 d) : Holds (Value.int .i64) w g 0 d := fun j hj => by
  have := h j (by rw [size_flatK]; omega)
  rw [flatK_int d j hj] at this
  exact this
theorem putRow_int (d : Array Int) : putRow (Value.int .i64) w g 0 d = putRowK intEnc 1 w g 0 d := by
  unfold putRowK putRow
  congr 1
  funext c
  unfold putCells
  refine Array.ext (by simp) fun i h1 h2 => ?_
  simp only [Array.getElem_mapIdx, Nat.zero_le, true_and, Nat.zero_add, Nat.sub_zero, size_flatK, Nat.mul_one, id]
  by_cases hi : i < d.size
  · rw [if_pos hi, if_pos hi, flatK_int d i hi]
  · rw [if_neg hi, if_neg hi]
end
def SortedOut (l : List Int) (v : Value) (w : World) (base : Nat) (e : Ending) (w' : World) : Prop := e = .returned (.tuple #[]) ∧ ∃ r, (∀ x, x ∈ r ↔ x ∈ l) ∧ r.length = l.length ∧ r.Pairwise (· ≤ ·) ∧ Own intEnc 1 w' base 3 v r ∧ Below base w w'
theorem sortInts_any (v : Value) (l : List Int) (w : World) (base : Nat) (hown : Own intEnc 1 w base 3 v l) (hbase : base ≤ w.heap.size) (hl : l.length ≤ 100000) :
    Calls Try.prog 107 #[v] w (SortedOut l v w base) := by
  rcases hown.2 with ⟨hv, h0⟩ | ⟨g, cap, cur, hv, hg, hh, _⟩
  · rw [hv]
    have h0' : l = [] := List.eq_nil_of_length_eq_zero h0
    refine (Try.slices_Sort_int_none none 0 w).mono fun e w' ⟨he, hw⟩ => ⟨he, [], by simp [h0'], by simp [h0'], by simp, by subst hw; rw [← hv, ← h0']; exact hown, by rw [hw]; exact Below.refl _ _⟩
  · have hlt : g < w.heap.size := by
      rcases Nat.lt_or_ge g w.heap.size with hlt | hge
      · exact hlt
      · rw [Array.getElem?_eq_none hge] at hh; cases hh
    rw [hv] at hown ⊢
    have hH := holds_int (hown.holdsK (sz := 1) (fun _ => rfl) (by decide))
    refine (Try.slices_Sort_int g 0 cap l w hH hlt (by omega)).mono fun e w' ⟨he, n, os, hw⟩ => ?_
    have hsz : (l.mergeSort fun x y => decide (x ≤ y)).length = l.length := List.length_mergeSort _
    refine ⟨he, l.mergeSort fun x y => decide (x ≤ y), fun x => List.mem_mergeSort, hsz, ?_, ?_, ?_⟩
    · have h1 := List.pairwise_mergeSort (le := fun x y : Int => decide (x ≤ y)) (fun a b c h1 h2 => by simp at *; omega) (fun a b => by simp; omega) l
      exact h1.imp fun h => by simpa using h
    · rw [hw, putRow_int]
      exact hown.sortWorld (sz := 1) (m := n) (os := os) (fun _ => rfl) (by decide) hsz
    · rw [hw, putRow_int]
      exact below_sort hg hbase
end Go.Proofs.Ytcfachfldanddaa
/- The walk of the document's bounds: sorted, each once. -/
namespace Go.Proofs.Ytcfachfldanddaa
open Go.RowKit

/-- While the sorted row is made shorter in its place. -/
structure CompInv (S m : List Int) (i k : Nat) : Prop where
  len : m.length = S.length
  uniq : Uniq S i (m.take k)
  ki : k ≤ i
  il : i ≤ S.length
  rest : ∀ j x, i ≤ j → S[j]? = some x → m[j]? = some x
section
variable {S m : List Int} {i k : Nat} {x z : Int}
theorem CompInv.start : CompInv S S 0 0 := ⟨rfl, by simpa using Uniq.start, Nat.le_refl _, Nat.zero_le _, fun _ _ _ h => h⟩
theorem CompInv.klen (h : CompInv S m i k) : (m.take k).length = k := by
  have := h.ki; have := h.il; have := h.len
  rw [List.length_take]; omega
theorem CompInv.put (h : CompInv S m i k) (hs : S.Pairwise (· ≤ ·)) (hx : S[i]? = some x) (hz : i = 0 ∨ ∃ z, m[k - 1]? = some z ∧ z ≠ x) : CompInv S (m.set k x) (i + 1) (k + 1) := by
  have hil := lt_of_get hx
  have hki := h.ki
  have hkm : k < m.length := by rw [h.len]; omega
  have e : (m.set k x).take (k + 1) = m.take k ++ [x] := by
    rw [List.take_add_one, List.getElem?_set_self hkm, List.take_set_of_le (Nat.le_refl _)]
    rfl
  refine ⟨by rw [List.length_set]; exact h.len, ?_, by omega, by omega, fun j y hj hy => ?_⟩
  · rw [e]
    rcases hz with rfl | ⟨z, hz, hne⟩
    · obtain rfl : k = 0 := by omega
      simpa using Uniq.first hx
    · have hk0 : 0 < k := by
        rcases Nat.eq_zero_or_pos k with h0 | h0
        · exfalso
          subst h0
          have h1 := h.uniq.pos
          by_cases hi0 : 0 < i
          · have := h1 hi0 (by omega)
            simp at this
          · obtain rfl : i = 0 := by omega
            have h2 := h.rest 0 x (Nat.le_refl _) hx
            simp only [Nat.zero_sub] at hz
            rw [h2] at hz
            exact hne (by simpa using hz.symm)
        · exact h0
      have e2 : m.take k = m.take (k - 1) ++ [z] := by
        have h3 : k = (k - 1) + 1 := by omega
        conv => lhs; rw [h3, List.take_add_one, hz]
        rfl
      have hu := h.uniq
      rw [e2] at hu ⊢
      exact hu.new hs hx hne
  · rw [List.getElem?_set_ne (by omega)]
    exact h.rest j y (by omega) hy
theorem CompInv.skip (h : CompInv S m i k) (hx : S[i]? = some x) (hi : i ≠ 0) (hz : m[k - 1]? = some x) : CompInv S m (i + 1) k := by
  have hil := lt_of_get hx
  have hki := h.ki
  have hk0 : 0 < k := by
    have := h.uniq.pos (by omega) (by omega)
    rw [h.klen] at this
    exact this
  refine ⟨h.len, ?_, by omega, by omega, fun j y hj hy => h.rest j y (by omega) hy⟩
  have e2 : m.take k = m.take (k - 1) ++ [x] := by
    have h3 : k = (k - 1) + 1 := by omega
    conv => lhs; rw [h3, List.take_add_one, hz]
    rfl
  have hu := h.uniq
  rw [e2] at hu ⊢
  exact hu.same hx
theorem CompInv.kpos (h : CompInv S m i k) (hi : i ≠ 0) (hl : i < S.length) : 0 < k := by
  have := h.uniq.pos (by omega) (by omega)
  rw [h.klen] at this
  exact this
end
/-- Its beginning alone. -/
theorem Own.cut {α : Type} {enc : α → List Value} {sz : Nat} {w : World} {base n c k : Nat} {e : TypeId} {A : Option Addr} {m : List α} (hk : ∀ x, (enc x).length = sz) (hs : 0 < sz) (h : Own enc sz w base e (.slice A n c) m) (hkn : k ≤ n) : Own enc sz w base e (.slice A k c) (m.take k) := by
  rcases h.2 with ⟨h1, h2⟩ | ⟨g, cap, cur, hv, _⟩
  · simp only [Value.slice.injEq] at h1
    obtain ⟨rfl, rfl, rfl⟩ := h1
    obtain rfl : k = 0 := by omega
    exact Own.nil
  · simp only [Value.slice.injEq] at hv
    obtain ⟨rfl, rfl, rfl⟩ := hv
    obtain ⟨_, hg, hmc, hcm, cs, hB, hcs, hr⟩ := h.cells hk
    have hl : (m.take k).length = k := by rw [List.length_take]; omega
    have h2 := Own.of_cells (m := m.take k) hk hs hB hg (by rw [hl]; omega) hcm hcs (hr.take k)
    rwa [hl] at h2
/-- What a call owns lies in a block of its own. -/
theorem own_fresh {α : Type} {enc : α → List Value} {k : Nat} {w : World} {base : Nat} {t : TypeId} {A : Option Addr} {n c : Nat} {l : List α} (h : Own enc k w base t (.slice A n c) l) : ∀ b, A = some b → base ≤ b.block := by
  rintro b rfl
  rcases h.2 with ⟨h2, _⟩ | ⟨g, cap, cur, hv, hg, _⟩
  · simp at h2
  · simp only [Value.slice.injEq, Option.some.injEq] at hv
    rw [hv.1]; exact hg
def BoundsF (l : List Int) (w : World) (e : Ending) (w' : World) : Prop := ∃ A c D, Hid (D.Pairwise (· < ·) ∧ (∀ x, x ∈ D ↔ x ∈ l) ∧ D.length ≤ l.length) ∧ (∀ b, A = some b → w.heap.size ≤ b.block) ∧ e = .returned (.slice A D.length c) ∧ IntsAt w' A c D ∧ Below w.heap.size w w'
/-- The bounds of a list. -/
def BoundsOut (l : List Int) (w : World) (e : Ending) (w' : World) : Prop := ∃ A c D, Hid (D.Pairwise (· < ·) ∧ (∀ x, x ∈ D ↔ x ∈ l) ∧ D.length ≤ l.length) ∧ e = .returned (.slice A D.length c) ∧ IntsAt w' A c D ∧ Below w.heap.size w w'

set_option maxRecDepth 100000 in
set_option maxHeartbeats 8000000 in
theorem bounds_fresh (A : Option Addr) (c : Nat) (l : List Int) (w : World) (hA : IntsAt w A c l) (hl : l.length ≤ 10000) :
    Calls Try.prog 104 #[.slice A l.length c] w (BoundsF l w) := by
  obtain ⟨i0, hi, hz0, hz1, hz2⟩ := info_int2
  have hi64 := hA.i64
  have HI64 := Lib.hid hi64
  clear hi64
  go_enter Try.func104, Try.ntmps104
  cases A with
  | none =>
    have h0 : l = [] := by
      cases l with
      | nil => rfl
      | cons y l =>
        obtain ⟨b, off, e, _⟩ := hA.get (k := 0) (x := y) rfl
        simp at e
    subst h0
    clear hA
    go_wp2_with (at_builtin; refine wpList_append_nothing rfl (.const (.slice none 0 0)) (.tmp 6) 81 rfl 3 i0 Try.underlying81 hi none 0 0 c rfl rfl (Nat.le_refl _) ?_)
    obtain ⟨v6, hv6⟩ : ∃ v6, v6 = Value.slice none 0 0 := ⟨_, rfl⟩
    have hown : Own intEnc 1 w w.heap.size 3 v6 [] := by rw [hv6]; exact Own.nil
    have hb6 : Below w.heap.size w w := Below.refl _ _
    rw [← hv6]
    clear hv6
    refine (sortInts_any v6 ([] : List Int) w w.heap.size hown hb6.size (by simp)).mono ?_
    rintro e w7 ⟨rfl, S, hmem, hlen, hsort, O7, hb7⟩
    have hb7 : Below w.heap.size w w7 := hb6.trans hb7
    have hi64 : ∀ x, x ∈ S → I64 x := fun x hx => HI64.out x ((hmem x).1 hx)
    have HS := Lib.hid hi64; have HMEM := Lib.hid hmem; have HLEN := Lib.hid hlen; have HSORT := Lib.hid hsort
    have hsl : S.length ≤ 10000 := by rw [hlen]; simp
    clear hi64 hmem hlen hsort hown hb6
    obtain ⟨Ao, co, rfl⟩ := O7.form
    have hsc := O7.room.1
    have hcm : co ≤ 9223372036854775807 := O7.room.2
    go_wp2_with fail
    go_loopw [4, 5] (fun u v wr => ∃ (k i : Nat) (m : List Int), u = .int .i64 k ∧ v = .int .i64 i ∧ i ≤ S.length ∧ Hid (CompInv S m i k) ∧ Own intEnc 1 wr w.heap.size 3 (.slice Ao S.length co) m ∧ Below w.heap.size w wr) (fun _ v _ => S.length - (intOf v).toNat)
    case atStart => exact ⟨0, 0, S, rfl, rfl, Nat.zero_le _, Lib.hid CompInv.start, O7, hb7⟩
    case round =>
      clear O7 hb7
      obtain ⟨k, i, m, rfl, rfl, hil, HC, hO, hb⟩ := hrel
      have hki := HC.out.ki
      by_cases hlt : i < S.length
      case neg =>
        have HFR := Lib.hid (own_fresh hO)
        have hkc : k ≤ co := by omega
        have hks : k ≤ S.length := by omega
        have hO2 := hO.cut intEnc_len (by decide) hks
        have hkl := HC.out.klen
        obtain ⟨Ax, cx, ex, hIx⟩ := own_ints hO2 (fun x hx => by
          have := (HC.out.uniq.mem x).1 hx
          exact HS.out x (List.mem_of_mem_take this))
        rw [hkl] at ex
        have ex : Ao = Ax ∧ co = cx := by simpa using ex
        obtain ⟨rfl, rfl⟩ := ex
        have HKL := Lib.hid hkl
        have HIX := Lib.hid hIx
        have HB : Hid (BoundsF ([] : List Int) w (.returned (.slice Ao k co)) wr) := Lib.hid (by
          refine ⟨Ao, co, m.take k, Lib.hid ⟨HC.out.uniq.up, fun x => ?_, by rw [HKL.out, ← HLEN.out]; exact hks⟩, HFR.out, by rw [HKL.out], HIX.out, hb⟩
          rw [HC.out.uniq.mem, List.take_of_length_le (by omega), HMEM.out])
        clear hkl hO2 hIx hO
        cases Ao with
        | none =>
          go_wp2_with fail
          go_ret
          exact HB.out
        | some ao =>
          go_wp2_with fail
          go_ret
          exact HB.out
      case pos =>
        obtain ⟨g, rfl⟩ : ∃ g, Ao = some ⟨g, 0, none⟩ := by
          rcases hO.2 with ⟨h1, h2⟩ | ⟨g, cap, cur, hv, _⟩
          · have := HC.out.len; omega
          · simp only [Value.slice.injEq] at hv
            exact ⟨g, hv.1⟩
        obtain ⟨hnm, hgo, hmc, hcm', cs, hBk, hcs, hrow⟩ := hO.cells intEnc_len
        obtain ⟨x, hx⟩ := get_lt hlt
        have hmx := HC.out.rest i x (Nat.le_refl _) hx
        have hml := HC.out.len
        have x0 : wr.cell? ⟨g, i, none⟩ = some (.int .i64 x) := by rw [hBk.cell]; have := hrow i x hmx 0 (by decide); simpa [intEnc] using this
        have hkm : k < m.length := by omega
        obtain ⟨y, hy⟩ := get_lt hkm
        have y0 : wr.cell? ⟨g, k, none⟩ = some (.int .i64 y) := by rw [hBk.cell]; have := hrow k y hy 0 (by decide); simpa [intEnc] using this
        have yf : wr.frozen? ⟨g, k, none⟩ = false := hBk.frozen k
        have hkl : k < S.length := by omega
        have hst : ∀ q, Own intEnc 1 ((wr.drewN q).setCell ⟨g, k, none⟩ (.int .i64 x)) w.heap.size 3 (.slice (some ⟨g, 0, none⟩) S.length co) (m.set k x) := fun q => by
          have h2 := Own.of_cells (enc := intEnc) (m := m.set k x) intEnc_len (by decide) ((hBk.drewN q).set_ k (.int .i64 x)) hgo (by rw [List.length_set]; exact hmc) hcm' (by simpa using hcs) (hrow.set hkm (fun t ht => by rw [Array.getElem?_setIfInBounds_ne (by omega)]) (fun t ht => by
            obtain rfl : t = 0 := by omega
            have k1 : k < cs.size := by omega
            rw [Nat.mul_one, Nat.add_zero, Array.getElem?_setIfInBounds_self_of_lt k1]; rfl))
          rwa [List.length_set, hml] at h2
        have HST := Lib.hid hst; have HX := Lib.hid hx; have HML := Lib.hid hml
        have HGO := Lib.hid hgo
        clear hst hx hmx hml hnm hrow hmc hcs hkm
        by_cases hi0 : i ≤ 0
        case pos =>
          have d1 : ((i : Int) == 0) = true := by simp; omega
          go_wp2_with fail
          go_quiet (fail)
          go_wp2_with fail
          go_roundw
          case rel => exact ⟨k + 1, i + 1, m.set k x, by go_num, by go_num, by omega, Lib.hid (HC.out.put HSORT.out HX.out (.inl (by omega))), HST.out _, (below_drewN hb _).setCell HGO.out _⟩
          case measure => simp [intOf]; omega
        case neg =>
          have hk0 := HC.out.kpos (by omega) hlt
          obtain ⟨j, rfl⟩ : ∃ j, k = j + 1 := ⟨k - 1, by omega⟩
          obtain ⟨z, hz⟩ := get_lt (show j < m.length by rw [HML.out]; omega)
          have z0 : wr.cell? ⟨g, j, none⟩ = some (.int .i64 z) := by
            have h4 := (hO.cells intEnc_len).2.2.2.2
            obtain ⟨cs', hB', _, hr'⟩ := h4
            rw [hB'.cell]
            have := hr' j z hz 0 (by decide)
            simpa [intEnc] using this
          have hjl : j < S.length := by omega
          have hjw : IntKind.i64.wrap (j : Int) = j := IntWalk.i64_in _ (by omega)
          have d1 : ((i : Int) == 0) = false := by simp; omega
          have HZ := Lib.hid hz
          clear hz
          by_cases hxz : x = z
          case pos =>
            have d2 : (x != z) = false := by simp [hxz]
            have HC2 : Hid (CompInv S m (i + 1) (j + 1)) := Lib.hid (HC.out.skip HX.out (by omega) (by rw [Nat.add_sub_cancel, HZ.out, hxz]))
            clear hxz
            go_wp2_with fail
            go_quiet (fail)
            go_wp2_with fail
            go_roundw
            case rel => exact ⟨j + 1, i + 1, m, by go_num, by go_num, by omega, HC2, hO.drewN _, below_drewN hb _⟩
            case measure => simp [intOf]; omega
          case neg =>
            have d2 : (x != z) = true := by simp [hxz]
            have HC2 := Lib.hid (HC.out.put HSORT.out HX.out (.inr ⟨z, by rw [Nat.add_sub_cancel]; exact HZ.out, fun e => hxz e.symm⟩))
            clear hxz
            go_wp2_with fail
            go_quiet (fail)
            go_wp2_with fail
            go_roundw
            case rel => exact ⟨j + 1 + 1, i + 1, m.set (j + 1) x, by go_num, by go_num, by omega, HC2, HST.out _, (below_drewN hb _).setCell HGO.out _⟩
            case measure => simp [intOf]; omega
  | some ad =>
    have hcells : ∀ (j : Nat) u, (l.flatMap intEnc)[j]? = some u → w.cell? (ad.add j) = some u := fun j u hu => by
      cases l with
      | nil => simp at hu
      | cons y l =>
        obtain ⟨b, off, e, _⟩ := hA.get (k := 0) (x := y) rfl
        obtain rfl : ad = ⟨b, off, none⟩ := by simpa using e
        rw [Go.WideShapes.add_plain]
        exact hA.flat j u hu
    clear hA
    go_wp2_with (at_builtin; refine wpList_append_own_at _ rfl (.const (.slice none 0 0)) (.tmp 6) 81 rfl w.heap.size 3 i0 _ 1 8 Try.underlying81 hi hz0 hz1 hz2 rfl (by decide) _ 0 [] rfl (World.ownsRow_nil _ _ _ _) ad l.length c (l.flatMap intEnc) rfl (by rw [flat_length intEnc_len]) hcells (ints_one l) (by unfold maxLen; omega) (by omega) (Nat.le_refl _) ?_; intro v6 w6 h2 h3 _ _; have hown : Own intEnc 1 w6 w.heap.size 3 v6 l := (by simpa [Own] using h2); have hb6 : Below w.heap.size w w6 := (Below.refl w.heap.size w).grown h3 (Nat.le_refl _) (fun k hk => by have h : (none : Option Nat) = some k := hk; cases h); clear h2 h3)
    refine (sortInts_any v6 l w6 w.heap.size hown hb6.size (by omega)).mono ?_
    rintro e w7 ⟨rfl, S, hmem, hlen, hsort, O7, hb7⟩
    have hb7 : Below w.heap.size w w7 := hb6.trans hb7
    have hi64 : ∀ x, x ∈ S → I64 x := fun x hx => HI64.out x ((hmem x).1 hx)
    have HS := Lib.hid hi64; have HMEM := Lib.hid hmem; have HLEN := Lib.hid hlen; have HSORT := Lib.hid hsort
    have hsl : S.length ≤ 10000 := by omega
    clear hi64 hmem hlen hsort hown hb6
    obtain ⟨Ao, co, rfl⟩ := O7.form
    have hsc := O7.room.1
    have hcm : co ≤ 9223372036854775807 := O7.room.2
    go_wp2_with fail
    go_loopw [4, 5] (fun u v wr => ∃ (k i : Nat) (m : List Int), u = .int .i64 k ∧ v = .int .i64 i ∧ i ≤ S.length ∧ Hid (CompInv S m i k) ∧ Own intEnc 1 wr w.heap.size 3 (.slice Ao S.length co) m ∧ Below w.heap.size w wr) (fun _ v _ => S.length - (intOf v).toNat)
    case atStart => exact ⟨0, 0, S, rfl, rfl, Nat.zero_le _, Lib.hid CompInv.start, O7, hb7⟩
    case round =>
      clear O7 hb7
      obtain ⟨k, i, m, rfl, rfl, hil, HC, hO, hb⟩ := hrel
      have hki := HC.out.ki
      by_cases hlt : i < S.length
      case neg =>
        have HFR := Lib.hid (own_fresh hO)
        have hkc : k ≤ co := by omega
        have hks : k ≤ S.length := by omega
        have hO2 := hO.cut intEnc_len (by decide) hks
        have hkl := HC.out.klen
        obtain ⟨Ax, cx, ex, hIx⟩ := own_ints hO2 (fun x hx => by
          have := (HC.out.uniq.mem x).1 hx
          exact HS.out x (List.mem_of_mem_take this))
        rw [hkl] at ex
        have ex : Ao = Ax ∧ co = cx := by simpa using ex
        obtain ⟨rfl, rfl⟩ := ex
        have HKL := Lib.hid hkl
        have HIX := Lib.hid hIx
        have HB : Hid (BoundsF l w (.returned (.slice Ao k co)) wr) := Lib.hid (by
          refine ⟨Ao, co, m.take k, Lib.hid ⟨HC.out.uniq.up, fun x => ?_, by rw [HKL.out, ← HLEN.out]; exact hks⟩, HFR.out, by rw [HKL.out], HIX.out, hb⟩
          rw [HC.out.uniq.mem, List.take_of_length_le (by omega), HMEM.out])
        clear hkl hO2 hIx hO
        cases Ao with
        | none =>
          go_wp2_with fail
          go_ret
          exact HB.out
        | some ao =>
          go_wp2_with fail
          go_ret
          exact HB.out
      case pos =>
        obtain ⟨g, rfl⟩ : ∃ g, Ao = some ⟨g, 0, none⟩ := by
          rcases hO.2 with ⟨h1, h2⟩ | ⟨g, cap, cur, hv, _⟩
          · have := HC.out.len; omega
          · simp only [Value.slice.injEq] at hv
            exact ⟨g, hv.1⟩
        obtain ⟨hnm, hgo, hmc, hcm', cs, hBk, hcs, hrow⟩ := hO.cells intEnc_len
        obtain ⟨x, hx⟩ := get_lt hlt
        have hmx := HC.out.rest i x (Nat.le_refl _) hx
        have hml := HC.out.len
        have x0 : wr.cell? ⟨g, i, none⟩ = some (.int .i64 x) := by rw [hBk.cell]; have := hrow i x hmx 0 (by decide); simpa [intEnc] using this
        have hkm : k < m.length := by omega
        obtain ⟨y, hy⟩ := get_lt hkm
        have y0 : wr.cell? ⟨g, k, none⟩ = some (.int .i64 y) := by rw [hBk.cell]; have := hrow k y hy 0 (by decide); simpa [intEnc] using this
        have yf : wr.frozen? ⟨g, k, none⟩ = false := hBk.frozen k
        have hkl : k < S.length := by omega
        have hst : ∀ q, Own intEnc 1 ((wr.drewN q).setCell ⟨g, k, none⟩ (.int .i64 x)) w.heap.size 3 (.slice (some ⟨g, 0, none⟩) S.length co) (m.set k x) := fun q => by
          have h2 := Own.of_cells (enc := intEnc) (m := m.set k x) intEnc_len (by decide) ((hBk.drewN q).set_ k (.int .i64 x)) hgo (by rw [List.length_set]; exact hmc) hcm' (by simpa using hcs) (hrow.set hkm (fun t ht => by rw [Array.getElem?_setIfInBounds_ne (by omega)]) (fun t ht => by
            obtain rfl : t = 0 := by omega
            have k1 : k < cs.size := by omega
            rw [Nat.mul_one, Nat.add_zero, Array.getElem?_setIfInBounds_self_of_lt k1]; rfl))
          rwa [List.length_set, hml] at h2
        have HST := Lib.hid hst; have HX := Lib.hid hx; have HML := Lib.hid hml
        have HGO := Lib.hid hgo
        clear hst hx hmx hml hnm hrow hmc hcs hkm
        by_cases hi0 : i ≤ 0
        case pos =>
          have d1 : ((i : Int) == 0) = true := by simp; omega
          go_wp2_with fail
          go_quiet (fail)
          go_wp2_with fail
          go_roundw
          case rel => exact ⟨k + 1, i + 1, m.set k x, by go_num, by go_num, by omega, Lib.hid (HC.out.put HSORT.out HX.out (.inl (by omega))), HST.out _, (below_drewN hb _).setCell HGO.out _⟩
          case measure => simp [intOf]; omega
        case neg =>
          have hk0 := HC.out.kpos (by omega) hlt
          obtain ⟨j, rfl⟩ : ∃ j, k = j + 1 := ⟨k - 1, by omega⟩
          obtain ⟨z, hz⟩ := get_lt (show j < m.length by rw [HML.out]; omega)
          have z0 : wr.cell? ⟨g, j, none⟩ = some (.int .i64 z) := by
            have h4 := (hO.cells intEnc_len).2.2.2.2
            obtain ⟨cs', hB', _, hr'⟩ := h4
            rw [hB'.cell]
            have := hr' j z hz 0 (by decide)
            simpa [intEnc] using this
          have hjl : j < S.length := by omega
          have hjw : IntKind.i64.wrap (j : Int) = j := IntWalk.i64_in _ (by omega)
          have d1 : ((i : Int) == 0) = false := by simp; omega
          have HZ := Lib.hid hz
          clear hz
          by_cases hxz : x = z
          case pos =>
            have d2 : (x != z) = false := by simp [hxz]
            have HC2 : Hid (CompInv S m (i + 1) (j + 1)) := Lib.hid (HC.out.skip HX.out (by omega) (by rw [Nat.add_sub_cancel, HZ.out, hxz]))
            clear hxz
            go_wp2_with fail
            go_quiet (fail)
            go_wp2_with fail
            go_roundw
            case rel => exact ⟨j + 1, i + 1, m, by go_num, by go_num, by omega, HC2, hO.drewN _, below_drewN hb _⟩
            case measure => simp [intOf]; omega
          case neg =>
            have d2 : (x != z) = true := by simp [hxz]
            have HC2 := Lib.hid (HC.out.put HSORT.out HX.out (.inr ⟨z, by rw [Nat.add_sub_cancel]; exact HZ.out, fun e => hxz e.symm⟩))
            clear hxz
            go_wp2_with fail
            go_quiet (fail)
            go_wp2_with fail
            go_roundw
            case rel => exact ⟨j + 1 + 1, i + 1, m.set (j + 1) x, by go_num, by go_num, by omega, HC2, HST.out _, (below_drewN hb _).setCell HGO.out _⟩
            case measure => simp [intOf]; omega
theorem bounds_any (A : Option Addr) (c : Nat) (l : List Int) (w : World) (hA : IntsAt w A c l) (hl : l.length ≤ 10000) :
    Calls Try.prog 104 #[.slice A l.length c] w (BoundsOut l w) :=
  (bounds_fresh A c l w hA hl).mono fun _ _ ⟨A, c, D, h1, _, h2, h3, h4⟩ => ⟨A, c, D, h1, h2, h3, h4⟩
end Go.Proofs.Ytcfachfldanddaa
