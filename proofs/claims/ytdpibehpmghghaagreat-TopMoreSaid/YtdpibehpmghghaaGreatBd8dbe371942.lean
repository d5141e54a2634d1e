/- Several texts in one: WarpVal, Bounds, Head, Held, Two. -/
import Derived.Maps.AppendAt
import Derived.Lib.BufferMore
import Derived.BigQuiet
import Derived.OrdersHeld
import Derived.StillTail
import Derived.Deep.RegionHeld3
import Derived.Test.YtdpibehpmghghaaGreatBd168de68ad9
import Derived.Test.YtdpibehpmghghaaGreatBd0a10e81a0b
import Derived.Test.YtdpibehpmghghaaGreatBd87574eba69
import Derived.Test.YtdpibehpmghghaaGreatBd615d7ca311
import Derived.Test.YtdpibehpmghghaaGreatBd3704f51cb5
import Derived.Test.YtdpibehpmghghaaGreatBdbca928d534
/- The walk of a moment's value. -/
namespace Go.Proofs.YtdpibehpmghghaaGreat
open Go.RowKit Go.Shelf

theorem valF_snoc {l : List PieceD} {k i : Int} : ∀ {is : List Int} {v : Int}, valF l k v (is ++ [i]) = both3 k (valF l k v is) (vAt l i)
  | [], _ => rfl
  | _ :: is, _ => valF_snoc (is := is)
theorem vAt_of {l : List PieceD} {j : Nat} {x : PieceD} (hx : l[j]? = some x) : vAt l j = x.v := by unfold vAt; rw [Int.toNat_natCast, hx]; rfl
theorem valF_bound {l : List PieceD} {k : Int} (hm : MsgOk l) (hk : 1 ≤ k ∧ k ≤ 3) : ∀ (is : List Int) (v A : Int), (∀ i, i ∈ is → 0 ≤ i ∧ i < l.length) → (-A ≤ v ∧ v ≤ A) → 0 ≤ A → -(A + is.length * 1000000000) ≤ valF l k v is ∧ valF l k v is ≤ A + is.length * 1000000000
  | [], v, A, _, hv, _ => by simp only [valF, List.length_nil]; omega
  | i :: is, v, A, hi, hv, hA => by
    have h0 := hi i (by simp)
    obtain ⟨x, hx⟩ := get_lt (show i.toNat < l.length by omega)
    have hx2 : vAt l i = x.v := by unfold vAt; rw [hx]; rfl
    have hb := both_bound hk hv hA (hm x (List.mem_of_getElem? hx)).1.2.2
    rw [← hx2] at hb
    have ih := valF_bound hm hk is (both3 k v (vAt l i)) (A + 1000000000) (fun j hj => hi j (List.mem_cons_of_mem _ hj)) hb (by omega)
    simp only [valF, List.length_cons]
    omega
set_option maxHeartbeats 1000000 in
theorem togetherBig_any (a b k : Int) (hk : 1 ≤ k ∧ k ≤ 3) (h1 : -1000000000000 ≤ a) (h1' : a ≤ 1000000000000) (hb : nearB b = true) (w : World) : Calls Tryz.prog 63 #[.int .i64 a, .int .i64 b, .int .i64 k] w fun e w' => e = .returned (.int .i64 (both3 k a b)) ∧ w = w' := by
  have h2 := near_iff.1 hb
  have hs : IntKind.i64.wrap (a + b) = a + b := IntWalk.i64_in _ (by omega)
  have hk3 : k = 1 ∨ k = 2 ∨ k = 3 := by omega
  clear hb hk
  have HR1 : both3 1 a b = min a b := by unfold both3; rw [if_neg (by decide), if_pos rfl]
  have HR2 : both3 2 a b = max a b := by unfold both3; rw [if_neg (by decide), if_neg (by decide)]
  have HR3 : both3 3 a b = a + b := by unfold both3; rw [if_pos rfl]
  have K1 := Lib.hid HR1.symm; have K2 := Lib.hid HR2.symm; have K3 := Lib.hid HR3.symm
  clear HR1 HR2 HR3 h1 h1' h2
  rcases hk3 with rfl | rfl | rfl
  all_goals
    go_enter Tryz.func63, Tryz.ntmps63
    go_wp2_with fail
    go_ret
    first
    | exact ⟨ret_int K1.out, rfl⟩
    | exact ⟨ret_int K2.out, rfl⟩
    | exact ⟨ret_int K3.out, rfl⟩

set_option maxRecDepth 100000 in
set_option maxHeartbeats 4000000 in
theorem warpValue_any (A B : Option Addr) (c d n : Nat) (o : Option Int) (wh : List Int) (l : List PieceD) (how : Int) (w : World) (hA : IntsAt w A c wh) (hn : wh.length = n) (h0 : wh ≠ []) (hi : ∀ i, i ∈ wh → 0 ≤ i ∧ i < l.length) (hB : PiecesAt w B d l) (hm : MsgOk l) (hl : l.length ≤ 200) (hwl : wh.length ≤ 200) (hk : 1 ≤ how ∧ how ≤ 3) :
    Calls Tryz.prog 148 #[momV A n c o, .slice B l.length d, .int .i64 how] w fun e w' => e = .returned (.int .i64 (valOf l how wh)) ∧ Below w.heap.size w w' := by
  have m2 := hB.len
  obtain ⟨i, is, rfl⟩ : ∃ i is, wh = i :: is := by
    cases wh with
    | nil => exact absurd rfl h0
    | cons i is => exact ⟨i, is, rfl⟩
  obtain ⟨j, rfl⟩ : ∃ j : Nat, i = j := ⟨i.toNat, by have := hi i (by simp); omega⟩
  have hjl : j < l.length := by have := hi j (by simp); omega
  obtain ⟨x, hx⟩ := get_lt hjl
  have hnn : n = is.length + 1 := by rw [← hn]; simp
  have hnc : is.length + 1 ≤ c := by have := hA.lc; simpa using this
  subst hnn
  have hcm : c ≤ 9223372036854775807 := hA.cm
  have HB := Lib.hid hB; have HA := Lib.hid hA; have HI := Lib.hid hi; have HM := Lib.hid hm; have HK := Lib.hid hk; have HL := Lib.hid hl
  have HV : Hid (valOf l how ((j : Int) :: is) = valF l how x.v is) := Lib.hid (by show valF l how (vAt l j) is = _; rw [vAt_of hx])
  have HXN := Lib.hid (hm x (List.mem_of_getElem? hx)).1.2.2
  have HWL : Hid (is.length ≤ 200) := Lib.hid (by simp at hwl; omega)
  obtain ⟨b, off, rfl, hb0, x0⟩ := hA.get (k := 0) (x := (j : Int)) rfl
  obtain ⟨b2, off2, rfl, hb2, y0, y1, y2⟩ := hB.get hx
  rw [Nat.add_zero] at x0
  have X0 : ∀ ob : Obj, (w.alloc ob).cell? ⟨b, off, none⟩ = some (.int .i64 j) := fun ob => ((ext_alloc (Below.refl _ w) ob).cell (p := ⟨b, off, none⟩) hb0).trans x0
  have Y2 : ∀ ob : Obj, (w.alloc ob).cell? ⟨b2, off2 + j * 3 + 2, none⟩ = some (.int .i64 x.v) := fun ob => ((ext_alloc (Below.refl _ w) ob).cell (p := ⟨b2, off2 + j * 3 + 2, none⟩) hb2).trans y2
  have hn1 : 1 ≤ is.length + 1 := by omega
  rw [HV.out]
  clear hA hB hi hm hk hx hn h0 x0 y0 y1 y2 hl hwl HV
  unfold momV momC
  by_cases hc1 : c = 1
  case pos =>
    obtain rfl : is = [] := List.eq_nil_of_length_eq_zero (by omega)
    subst hc1
    go_enter Tryz.func148, Tryz.ntmps148
    go_wp2_with fail
    go_loopw [7, 22] (fun a y wr => y = .int .i64 0 ∧ a = .int .i64 x.v ∧ Below w.heap.size w wr) (fun _ _ _ => 0)
    case atStart => exact ⟨rfl, rfl, by go_grown⟩
    case round =>
      obtain ⟨rfl, rfl, hb⟩ := hrel
      go_wp2_with fail
      go_ret
      exact ⟨rfl, hb⟩
  case neg =>
    have hcc : 1 < c := by omega
    go_enter Tryz.func148, Tryz.ntmps148
    go_wp2_with fail
    go_loopw [7, 22] (fun a y wr => ∃ k : Nat, k ≤ is.length ∧ y = .int .i64 k ∧ a = .int .i64 (valF l how x.v (is.take k)) ∧ Below w.heap.size w wr) (fun _ y _ => is.length - (intOf y).toNat)
    case atStart => exact ⟨0, Nat.zero_le _, rfl, rfl, by go_grown⟩
    case round =>
      clear X0 Y2
      obtain ⟨k, hk, rfl, rfl, hb⟩ := hrel
      by_cases hlt : k < is.length
      case neg =>
        obtain rfl : k = is.length := by omega
        rw [List.take_length]
        go_wp2_with fail
        go_ret
        exact ⟨rfl, hb⟩
      case pos =>
        obtain ⟨i2, hi2⟩ := get_lt hlt
        obtain ⟨j2, rfl⟩ : ∃ j2 : Nat, i2 = j2 := ⟨i2.toNat, by have := HI.out i2 (List.mem_cons_of_mem _ (List.mem_of_getElem? hi2)); omega⟩
        have hj2 : j2 < l.length := by have := HI.out j2 (List.mem_cons_of_mem _ (List.mem_of_getElem? hi2)); omega
        obtain ⟨z, hz⟩ := get_lt hj2
        obtain ⟨b', off', e', _, u0⟩ := HA.out.get (k := k + 1) (x := (j2 : Int)) (by rw [List.getElem?_cons_succ]; exact hi2)
        obtain ⟨rfl, rfl⟩ : b = b' ∧ off = off' := by simpa using e'
        obtain ⟨b3, off3, e3, _, v0, v1, v2⟩ := HB.out.get hz
        obtain ⟨rfl, rfl⟩ : b2 = b3 ∧ off2 = off3 := by simpa using e3
        have u0 : wr.cell? ⟨b, off + 1 + k, none⟩ = some (.int .i64 j2) := by rw [show off + 1 + k = off + (k + 1) by omega]; exact (hb.cell (p := ⟨b, off + (k + 1), none⟩) hb0).trans u0
        have v2 : wr.cell? ⟨b2, off2 + j2 * 3 + 2, none⟩ = some (.int .i64 z.v) := (hb.cell (p := ⟨b2, off2 + j2 * 3 + 2, none⟩) hb2).trans v2
        have HN : Hid (is.take (k + 1) = is.take k ++ [(j2 : Int)]) := Lib.hid (by rw [List.take_add_one, hi2]; rfl)
        have HS : Hid (valF l how x.v (is.take (k + 1)) = both3 how (valF l how x.v (is.take k)) z.v) := Lib.hid (by rw [HN.out, valF_snoc, vAt_of hz])
        have hbd := valF_bound HM.out HK.out (is.take k) x.v 1000000000 (fun i hi => HI.out i (List.mem_cons_of_mem _ (List.mem_of_mem_take hi))) (by have := near_iff.1 HXN.out; omega) (by omega)
        have hlk : (is.take k).length ≤ 200 := by rw [List.length_take]; have := HWL.out; omega
        obtain ⟨a1, ha1⟩ : ∃ a1, valF l how x.v (is.take k) = a1 := ⟨_, rfl⟩
        rw [ha1] at hbd HS ⊢
        have hT := togetherBig_any a1 z.v how HK.out (by omega) (by omega) (HM.out z (List.mem_of_getElem? hz)).1.2.2
        have hk9 : (k : Int) + 1 < (c : Int) := by omega
        clear hi2 hz e' e3 v0 v1 hbd hlk ha1
        go_wp2_with fail
        refine (hT _).mono ?_
        rintro e w5 ⟨rfl, rfl⟩
        go_wp2_with fail
        go_roundw
        case rel => exact ⟨k + 1, by omega, by go_num, by rw [HS.out], hb⟩
        case measure => simp [intOf]; omega
end Go.Proofs.YtdpibehpmghghaaGreat
/- The walk of the document's bounds: sorted, each once. -/
namespace Go.Proofs.YtdpibehpmghghaaGreat
open Go.RowKit

/-- While the sorted row is made shorter in its place. -/
structure CompInv (S m : List Int) (i k : Nat) : Prop where
  len : m.length = S.length
  uniq : Uniq S i (m.take k)
  ki : k ≤ i
  il : i ≤ S.length
  rest : ∀ j x, i ≤ j → S[j]? = some x → m[j]? = some x
section
variable {S m : List Int} {i k : Nat} {x z : Int}
theorem CompInv.start : CompInv S S 0 0 := ⟨rfl, by simpa using Uniq.start, Nat.le_refl _, Nat.zero_le _, fun _ _ _ h => h⟩
theorem CompInv.klen (h : CompInv S m i k) : (m.take k).length = k := by
  have := h.ki; have := h.il; have := h.len
  rw [List.length_take]; omega
theorem CompInv.put (h : CompInv S m i k) (hs : S.Pairwise (· ≤ ·)) (hx : S[i]? = some x) (hz : i = 0 ∨ ∃ z, m[k - 1]? = some z ∧ z ≠ x) : CompInv S (m.set k x) (i + 1) (k + 1) := by
  have hil := lt_of_get hx
  have hki := h.ki
  have hkm : k < m.length := by rw [h.len]; omega
  have e : (m.set k x).take (k + 1) = m.take k ++ [x] := by
    rw [List.take_add_one, List.getElem?_set_self hkm, List.take_set_of_le (Nat.le_refl _)]
    rfl
  refine ⟨by rw [List.length_set]; exact h.len, ?_, by omega, by omega, fun j y hj hy => ?_⟩
  · rw [e]
    rcases hz with rfl | ⟨z, hz, hne⟩
    · obtain rfl : k = 0 := by omega
      simpa using Uniq.first hx
    · have hk0 : 0 < k := by
        rcases Nat.eq_zero_or_pos k with h0 | h0
        · exfalso
          subst h0
          have h1 := h.uniq.pos
          by_cases hi0 : 0 < i
          · have := h1 hi0 (by omega)
            simp at this
          · obtain rfl : i = 0 := by omega
            have h2 := h.rest 0 x (Nat.le_refl _) hx
            simp only [Nat.zero_sub] at hz
            rw [h2] at hz
            exact hne (by simpa using hz.symm)
        · exact h0
      have e2 : m.take k = m.take (k - 1) ++ [z] := by
        have h3 : k = (k - 1) + 1 := by omega
        conv => lhs; rw [h3, List.take_add_one, hz]
        rfl
      have hu := h.uniq
      rw [e2] at hu ⊢
      exact hu.new hs hx hne
  · rw [List.getElem?_set_ne (by omega)]
    exact h.rest j y (by omega) hy
theorem CompInv.skip (h : CompInv S m i k) (hx : S[i]? = some x) (hi : i ≠ 0) (hz : m[k - 1]? = some x) : CompInv S m (i + 1) k := by
  have hil := lt_of_get hx
  have hki := h.ki
  have hk0 : 0 < k := by
    have := h.uniq.pos (by omega) (by omega)
    rw [h.klen] at this
    exact this
  refine ⟨h.len, ?_, by omega, by omega, fun j y hj hy => h.rest j y (by omega) hy⟩
  have e2 : m.take k = m.take (k - 1) ++ [x] := by
    have h3 : k = (k - 1) + 1 := by omega
    conv => lhs; rw [h3, List.take_add_one, hz]
    rfl
  have hu := h.uniq
  rw [e2] at hu ⊢
  exact hu.same hx
theorem CompInv.kpos (h : CompInv S m i k) (hi : i ≠ 0) (hl : i < S.length) : 0 < k := by
  have := h.uniq.pos (by omega) (by omega)
  rw [h.klen] at this
  exact this
end
/-- Its beginning alone. -/
theorem Own.cut {α : Type} {enc : α → List Value} {sz : Nat} {w : World} {base n c k : Nat} {e : TypeId} {A : Option Addr} {m : List α} (hk : ∀ x, (enc x).length = sz) (hs : 0 < sz) (h : Own enc sz w base e (.slice A n c) m) (hkn : k ≤ n) : Own enc sz w base e (.slice A k c) (m.take k) := by
  rcases h.2 with ⟨h1, h2⟩ | ⟨g, cap, cur, hv, _⟩
  · simp only [Value.slice.injEq] at h1
    obtain ⟨rfl, rfl, rfl⟩ := h1
    obtain rfl : k = 0 := by omega
    exact Own.nil
  · simp only [Value.slice.injEq] at hv
    obtain ⟨rfl, rfl, rfl⟩ := hv
    obtain ⟨_, hg, hmc, hcm, cs, hB, hcs, hr⟩ := h.cells hk
    have hl : (m.take k).length = k := by rw [List.length_take]; omega
    have h2 := Own.of_cells (m := m.take k) hk hs hB hg (by rw [hl]; omega) hcm hcs (hr.take k)
    rwa [hl] at h2
/-- What a call owns lies in a block of its own. -/
theorem own_fresh {α : Type} {enc : α → List Value} {k : Nat} {w : World} {base : Nat} {t : TypeId} {A : Option Addr} {n c : Nat} {l : List α} (h : Own enc k w base t (.slice A n c) l) : ∀ b, A = some b → base ≤ b.block := by
  rintro b rfl
  rcases h.2 with ⟨h2, _⟩ | ⟨g, cap, cur, hv, hg, _⟩
  · simp at h2
  · simp only [Value.slice.injEq, Option.some.injEq] at hv
    rw [hv.1]; exact hg
def BoundsF (l : List Int) (w : World) (e : Ending) (w' : World) : Prop := ∃ A c D, Hid (D.Pairwise (· < ·) ∧ (∀ x, x ∈ D ↔ x ∈ l) ∧ D.length ≤ l.length) ∧ (∀ b, A = some b → w.heap.size ≤ b.block) ∧ e = .returned (.slice A D.length c) ∧ IntsAt w' A c D ∧ Below w.heap.size w w'
/-- The bounds of a list. -/
def BoundsOut (l : List Int) (w : World) (e : Ending) (w' : World) : Prop := ∃ A c D, Hid (D.Pairwise (· < ·) ∧ (∀ x, x ∈ D ↔ x ∈ l) ∧ D.length ≤ l.length) ∧ e = .returned (.slice A D.length c) ∧ IntsAt w' A c D ∧ Below w.heap.size w w'

end Go.Proofs.YtdpibehpmghghaaGreat
/- A region that draws its order and ends in an operation that waits for all others: a condition on the world is kept up to that last operation alone. -/
namespace Go.Proofs.YtdpibehpmghghaaGreat
open Go Go.RowKit

section
variable {P : Program} {ops : Array Oper} {Q : Exit → Act → World → Prop} {md : Region.Mode} {S : World → Prop}
/-- Whatever order is picked: behind each of the first n operations S holds. -/
def WpN (P : Program) (md : Region.Mode) (ops : Array Oper) (Q : Exit → Act → World → Prop) (S : World → Prop) (n : Nat) : Nat → Array Bool → Act → World → Prop
  | 0, listed, a, w => Region.ready md ops listed = [] ∧ Q .normal a w
  | f + 1, listed, a, w => (Region.ready md ops listed = [] → Q .normal a w) ∧
      ∀ i ∈ Region.ready md ops listed, wpOp P ops Q i (fun a' w' => (i < n → S w') ∧ WpN P md ops Q S n f (listed.setIfInBounds i true) a' w') a w
theorem WpN.any {n : Nat} : ∀ (f : Nat) (listed : Array Bool) (a : Act) (w : World), WpN P md ops Q S n f listed a w → wpAny P md ops Q f listed a w
  | 0, _, _, _, h => h
  | f + 1, _, _, _, h => ⟨h.1, fun i hi => wpOp_mono (fun _ _ h' => h'.2.any f _ _ _) (h.2 i hi)⟩
theorem WpN.first {n i : Nat} {oi : Oper} {v : Value} (hi : ops[i]? = some oi) (hsel : ∀ (j : Nat) (o : Oper) cs b, ops[j]? = some o → o.op ≠ .select cs b)
    (hQ : ∀ c a w, Q (.panic c) (a.put oi.dst v) w → Q (.panic c) a w) (hs : Region.sinkB md ops n = true) (hc : Region.chainB md ops n = true) (hn : n < ops.size) (hin : i < n) (f : Nat) :
    ∀ (listed : Array Bool) (a : Act) (w : World), HeadInv md ops n listed →
      (∀ j oj, ops[j]? = some oj → j ≠ i → listed.getD j true = false → (∀ e ∈ oj.after, Region.binds md e = true → e.on ≠ i) → oi.apart ops oj = true) →
      i ∈ Region.ready md ops listed → YieldsIf P ops S oi v a → S w → WpN P md ops Q S n f (listed.setIfInBounds i true) (a.put oi.dst v) w → WpN P md ops Q S n (f + 1) listed a w := by
  induction f with
  | zero =>
    intro listed a w inv _ hr hy hS H
    refine ⟨fun h => (by rw [h] at hr; cases hr), fun j hj => ?_⟩
    by_cases hji : j = i
    · subst hji; exact hy.wpOp hi hS ⟨fun _ => hS, H⟩
    · have h1 := ready_mono hj hji
      rw [H.1] at h1
      cases h1
  | succ f ih =>
    intro listed a w inv hfree hr hy hS H
    have hun := (mem_ready.1 hr).1
    refine ⟨fun h => (by rw [h] at hr; cases hr), fun j hj => ?_⟩
    have hjn : j < n := by
      rcases Nat.lt_or_ge j n with h | h
      · exact h
      · exact absurd hj (tail_waits hs hc hn inv _ i rfl hin hun j h)
    by_cases hji : j = i
    · subst hji; exact hy.wpOp hi hS ⟨fun _ => hS, H⟩
    · obtain ⟨hjun, oj, hoj, hall⟩ := mem_ready.1 hj
      have hnot : ∀ e ∈ oj.after, Region.binds md e = true → e.on ≠ i := fun e he hb heq => by
        have h2 := hall e he hb
        rw [heq, getD_both hun] at h2
        cases h2
      have h2 := wpOp_putIf hoj (hfree j oj hoj hji hjun hnot) (fun cs b => hsel i oi cs b hi) (fun cs b => hsel j oj cs b hoj) hQ hy (H.2 j (ready_mono hj hji))
      refine wpOp_mono (fun a' w' h3 => ⟨h3.2.1, ih (listed.setIfInBounds j true) a' w' (inv.set hj hjn) (fun k ok hk hki hu hno => hfree k ok hk hki ?_ hno) (ready_mono hr (Ne.symm hji)) h3.1 (h3.2.1 hjn) ?_⟩) h2
      · by_cases hjk : j = k
        · subst hjk; exact hjun
        · rw [getD_set_ne true hjk] at hu; exact hu
      · rw [Array.setIfInBounds_comm _ _ hji]
        exact h3.2.2
/-- The numbers that are listed, and that the rest is as it must be: one closed fact. -/
def headB (md : Region.Mode) (ops : Array Oper) (n : Nat) (listed : Array Bool) : Bool :=
  decide (listed.size = ops.size) && (List.range ops.size).all fun j => (decide (j < n) || !listed.getD j true) && (!listed.getD j false || match ops[j]? with
    | some oj => oj.after.all fun e => !Region.binds md e || listed.getD e.on false
    | none => true)
theorem headB_inv {n : Nat} {listed : Array Bool} (h : headB md ops n listed = true) : HeadInv md ops n listed := by
  simp only [headB, Bool.and_eq_true, decide_eq_true_eq, List.all_eq_true, List.mem_range] at h
  obtain ⟨h1, h2⟩ := h
  refine ⟨h1, fun j oj hj hl e he hb => ?_, fun t ht ht' => ?_⟩
  · have h3 := (h2 j (Array.getElem?_eq_some_iff.1 hj).1).2
    rw [hl, hj] at h3
    simp only [Bool.not_true, Bool.false_or] at h3
    have h4 := Array.all_eq_true'.1 h3 e he
    simpa [hb] using h4
  · have h3 := (h2 t ht').1
    simp only [Bool.or_eq_true, decide_eq_true_eq, Bool.not_eq_true'] at h3
    rcases h3 with h3 | h3
    · omega
    · exact h3
/-- Take number i first. -/
theorem WpN.take {n i : Nat} {oi : Oper} {v : Value} {f : Nat} {listed : Array Bool} {a : Act} {w : World} (hi : ops[i]? = some oi)
    (hB : (Region.noSelect ops && Region.free md ops listed i && (Region.ready md ops listed).contains i && Region.sinkB md ops n && Region.chainB md ops n && decide (n < ops.size) && decide (i < n) && headB md ops n listed) = true)
    (hQ : ∀ c a w, Q (.panic c) (a.put oi.dst v) w → Q (.panic c) a w) (hy : YieldsIf P ops S oi v a) (hS : S w)
    (h : WpN P md ops Q S n f (listed.setIfInBounds i true) (a.put oi.dst v) w) : WpN P md ops Q S n (f + 1) listed a w := by
  simp only [Bool.and_eq_true, decide_eq_true_eq] at hB
  obtain ⟨⟨⟨⟨⟨⟨⟨b1, b2⟩, b3⟩, b4⟩, b5⟩, b6⟩, b7⟩, b8⟩ := hB
  exact WpN.first hi (Region.noSelect_spec b1) hQ b4 b5 b6 b7 f listed a w (headB_inv b8) (Region.free_spec hi b2) (by simpa using b3) hy hS h
/-- One alone may come up. -/
theorem WpN.one {n i : Nat} {oi : Oper} {f : Nat} {listed : Array Bool} {a : Act} {w : World} (hi : ops[i]? = some oi) (hr : (Region.ready md ops listed == [i] && Region.wanted oi (yielded ops a.tmps)) = true)
    (h : ∀ K : Act → World → Prop, Hid (∀ a' w', ((i < n → S w') ∧ WpN P md ops Q S n f (listed.setIfInBounds i true) a' w') → K a' w') → Oper.wp P oi a w K Q) : WpN P md ops Q S n (f + 1) listed a w := by
  simp only [Bool.and_eq_true, beq_iff_eq] at hr
  obtain ⟨hr, hw⟩ := hr
  refine ⟨fun h0 => (by rw [h0] at hr; cases hr), fun j hj => ?_⟩
  rw [hr] at hj
  obtain rfl : j = i := by simpa using hj
  unfold wpOp
  simp only [hi, hw, if_true]
  exact .inl (h _ (Lib.hid fun _ _ h => h))
theorem WpN.done {n : Nat} {listed : Array Bool} {a : Act} {w : World} (hr : Region.ready md ops listed = []) (h : Q .normal a w) : ∀ f, WpN P md ops Q S n f listed a w
  | 0 => ⟨hr, h⟩
  | _ + 1 => ⟨fun _ => h, by rw [hr]; simp⟩
theorem WpN.begin {id : Nat} {a : Act} {w : World} (n : Nat) (hm : P.follows .mixedOrders = true) (h : WpN P .any ops Q S n ops.size (Array.replicate ops.size false) a w.drew) : (Code.region id ops true).wp P Q a w :=
  wp_region_any hm (h.any _ _ _ _)
end
end Go.Proofs.YtdpibehpmghghaaGreat
/- A region that draws its order and keeps a condition, step by step: one operation alone may come up; the way a guard that is false goes. -/
namespace Go.Proofs.YtdpibehpmghghaaGreat
open Go Go.RowKit

section
variable {P : Program} {ops : Array Oper} {Q : Exit → Act → World → Prop} {md : Region.Mode} {S : World → Prop}
theorem anyH_take {i : Nat} {oi : Oper} {v : Value} {f : Nat} {listed : Array Bool} {a : Act} {w : World} {d : Nat} (hi : ops[i]? = some oi) (hd : oi.dst = some d)
    (hB : (Region.noSelect ops && Region.free md ops listed i && (Region.ready md ops listed).contains i) = true)
    (hQ : ∀ c a w, Q (.panic c) (a.put (some d) v) w → Q (.panic c) a w) (hy : YieldsIf P ops S oi v a) (hS : S w)
    (h : wpAnyH P md ops Q S f (listed.setIfInBounds i true) (a.put (some d) v) w) : wpAnyH P md ops Q S (f + 1) listed a w := by
  simp only [Bool.and_eq_true] at hB
  obtain ⟨⟨b1, b2⟩, b3⟩ := hB
  rw [← hd] at hQ h
  exact wpAnyH_take hi b1 b2 b3 hQ hy hS h
/-- As WpN.take, the slot given outright. -/
theorem WpN.takeD {n i : Nat} {oi : Oper} {v : Value} {f : Nat} {listed : Array Bool} {a : Act} {w : World} {d : Nat} (hi : ops[i]? = some oi) (hd : oi.dst = some d)
    (hB : (Region.noSelect ops && Region.free md ops listed i && (Region.ready md ops listed).contains i && Region.sinkB md ops n && Region.chainB md ops n && decide (n < ops.size) && decide (i < n) && headB md ops n listed) = true)
    (hQ : ∀ c a w, Q (.panic c) (a.put (some d) v) w → Q (.panic c) a w) (hy : YieldsIf P ops S oi v a) (hS : S w)
    (h : WpN P md ops Q S n f (listed.setIfInBounds i true) (a.put (some d) v) w) : WpN P md ops Q S n (f + 1) listed a w := by
  rw [← hd] at hQ h
  exact WpN.take hi hB hQ hy hS h
/-- One alone may come up. -/
theorem anyH_one {i : Nat} {oi : Oper} {f : Nat} {listed : Array Bool} {a : Act} {w : World} (hi : ops[i]? = some oi) (hr : (Region.ready md ops listed == [i] && Region.wanted oi (yielded ops a.tmps)) = true)
    (h : ∀ K : Act → World → Prop, Hid (∀ a' w', (S w' ∧ wpAnyH P md ops Q S f (listed.setIfInBounds i true) a' w') → K a' w') → Oper.wp P oi a w K Q) : wpAnyH P md ops Q S (f + 1) listed a w := by
  simp only [Bool.and_eq_true, beq_iff_eq] at hr
  obtain ⟨hr, hw⟩ := hr
  refine ⟨fun h0 => (by rw [h0] at hr; cases hr), fun j hj => ?_⟩
  rw [hr] at hj
  obtain rfl : j = i := by simpa using hj
  unfold wpOp
  simp only [hi, hw, if_true]
  exact .inl (h _ (Lib.hid fun _ _ h => h))
end
end Go.Proofs.YtdpibehpmghghaaGreat
/- Two operations may come up, in whichever order. -/
namespace Go.Proofs.YtdpibehpmghghaaGreat
open Go Go.RowKit

section
variable {P : Program} {ops : Array Oper} {Q : Exit → Act → World → Prop} {md : Region.Mode} {S : World → Prop}
theorem WpN.two {n i j : Nat} {oi oj : Oper} {f : Nat} {listed : Array Bool} {a : Act} {w : World} (hi : ops[i]? = some oi) (hj : ops[j]? = some oj)
    (hr : (Region.ready md ops listed == [i, j] && Region.wanted oi (yielded ops a.tmps) && Region.wanted oj (yielded ops a.tmps)) = true)
    (h1 : ∀ K : Act → World → Prop, Hid (∀ a' w', ((i < n → S w') ∧ WpN P md ops Q S n f (listed.setIfInBounds i true) a' w') → K a' w') → Oper.wp P oi a w K Q)
    (h2 : ∀ K : Act → World → Prop, Hid (∀ a' w', ((j < n → S w') ∧ WpN P md ops Q S n f (listed.setIfInBounds j true) a' w') → K a' w') → Oper.wp P oj a w K Q) : WpN P md ops Q S n (f + 1) listed a w := by
  simp only [Bool.and_eq_true, beq_iff_eq] at hr
  obtain ⟨⟨hr, hwi⟩, hwj⟩ := hr
  refine ⟨fun h0 => (by rw [h0] at hr; cases hr), fun k hk => ?_⟩
  rw [hr] at hk
  have hk : k = i ∨ k = j := by simpa using hk
  unfold wpOp
  rcases hk with rfl | rfl
  · simp only [hi, hwi, if_true]
    exact .inl (h1 _ (Lib.hid fun _ _ h => h))
  · simp only [hj, hwj, if_true]
    exact .inl (h2 _ (Lib.hid fun _ _ h => h))
end
/-- One own list is put behind another one. -/
theorem wp_append_two {P : Program} {o : Oper} {a : Act} {K : Act → World → Prop} {Q : Exit → Act → World → Prop} {w : World} {α : Type} {enc : α → List Value} (s x : Operand) (t : TypeId)
    (ho : o.op = .call { callee := .builtin .append, args := #[s, x], argTypes := #[t, t] })
    (base base2 : Nat) (e : TypeId) (i : TypeInfo) (z : Value) (size bytes : Nat) (ht : P.underlying t = some (.slice e)) (hi : P.info? e = some i) (hz : i.zero = some z)
    (hsize : i.size = size) (hby : i.bytes = bytes) (hzs : z.cells.size = size) (hsz : 0 < size)
    (v v2 : Value) (l l2 : List α) (hs : a.eval s = v) (hx : a.eval x = v2) (hown : Own enc size w base e v l) (hown2 : Own enc size w base2 e v2 l2) (h1 : ∀ u ∈ l2.flatMap enc, u.oneCell' = true)
    (h63 : l.length + l2.length ≤ 1000000) (hby2 : bytes ≤ 1000) (hbase : base ≤ w.heap.size)
    (h : ∀ v' w', Own enc size w' base e v' (l ++ l2) → Below base w w' → K (a.put o.dst v') w') : Oper.wp P o a w K Q := by
  have hb2 : (l.length + l2.length) * bytes ≤ 140737488355328 := Nat.le_trans (Nat.mul_le_mul h63 hby2) (by decide)
  rcases hown2.2 with ⟨hv2, h0⟩ | ⟨g, cap, cur, hv2, _⟩
  · have e2 : l2 = [] := List.eq_nil_of_length_eq_zero h0
    obtain ⟨A, c, rfl⟩ := hown.form
    have hr := run_append_nothing (P := P) w t e o.type i ht hi A l.length c 0 hown.room.1
    unfold Oper.wp execOp
    simp only [ho, resolve, invoke, builtin, Sem.run_bind, Sem.run_pure, Result.andThen_ok, List.map_toArray, List.map_cons, List.map_nil, hs, hx, hv2, hr]
    exact h _ _ (by rw [e2, List.append_nil]; exact hown) (Below.refl _ _)
  · have hnews : ∀ j u, (l2.flatMap enc)[j]? = some u → w.cell? ((⟨g, 0, none⟩ : Addr).add j) = some u := by
      have h3 := hown2
      rw [hv2] at h3
      exact World.ownsRow.cells h3 (g := g) rfl
    obtain ⟨v', w', hr, k2, k3, _, _⟩ := run_append_own_at (P := P) w base t o.type e i z size bytes ht hi hz hsize hby hzs hsz v l.length (l.flatMap enc) hown ⟨g, 0, none⟩ l2.length cap (l2.flatMap enc) hown2.1 hnews h1 (by unfold maxLen; omega) hb2 hbase
    unfold Oper.wp execOp
    simp only [ho, resolve, invoke, builtin, Sem.run_bind, Sem.run_pure, Result.andThen_ok, List.map_toArray, List.map_cons, List.map_nil, hs, hx, hv2, hr]
    refine h _ _ ?_ ((Below.refl base w).grown k3 hbase fun k hk => (World.ownsRow.lt hown k hk).1)
    unfold Own
    rw [List.flatMap_append, List.length_append]
    exact k2
end Go.Proofs.YtdpibehpmghghaaGreat
