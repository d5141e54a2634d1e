/- Several texts in one: IvlDelW, Held2, Clone, HeadE, AppAll. -/
import Derived.Maps.AppendAt
import Derived.Lib.BufferMore
import Derived.Test.YtdpibehpmghghaaGreatBd0099a17721
import Derived.Test.YtdpibehpmghghaaGreatBd8dbe371942
import Derived.Test.YtdpibehpmghghaaGreatBdbca928d534
/- The walk of slices.DeleteFunc over intervals. -/
namespace Go.Proofs.YtdpibehpmghghaaGreat
open Go.RowKit Go.Shelf

theorem Own.keepBelow {α : Type} {enc : α → List Value} {sz : Nat} {w w' : World} {base : Nat} {e : TypeId} {v : Value} {l : List α} (h : Own enc sz w base e v l) (hb : Below w.heap.size w w') : Own enc sz w' base e v l := h.ext hb
theorem zeroIvl (w : World) : (zeroValue 107).run Tryz.prog w = .ok (.agg #[.int .i64 0, .int .i64 0]) w := Tryz.zeroValue107 w

set_option maxRecDepth 100000 in
set_option maxHeartbeats 4000000 in
theorem ivlDelete_any (fn : Nat) (lb : Array Value) (p : IvlD → Bool) (eg : ∀ args w, (callFunc fn args).run Tryz.prog w = .ok (.enter fn args) w) (v : Value) (l : List IvlD) (w : World) (base : Nat) (hown : Own ivlC 2 w base 107 v l) (hbase : base ≤ w.heap.size)
    (hi64 : ∀ x, x ∈ l → I64 x.f ∧ I64 x.t) (hl : l.length ≤ 100000) (hp : ∀ (W : World) (x : IvlD), Calls Tryz.prog fn (#[ivlV x] ++ lb) W fun e w' => e = .returned (.bool (p x)) ∧ Below W.heap.size W w') :
    Calls Tryz.prog 159 #[v, .func (.func fn) #[] lb] w (OwnOut (l.filter fun x => !p x) w base) := by
  obtain ⟨A, c, rfl, hI⟩ := own_ivls hown hi64
  have HO := Lib.hid hown
  have HP := Lib.hid hp
  have hIF := indexFunc_any fn lb p eg A c l w hI fun W x _ => hp W x
  clear hown hp hI hi64
  go_enter Tryz.func159, Tryz.ntmps159
  go_wp2_with fail
  refine hIF.mono ?_
  rintro e w1 ⟨⟨r, rfl, hr⟩, hb1⟩
  clear hIF
  rcases hr with ⟨rfl, hall⟩ | ⟨k, x, rfl, hx, hpx, hn⟩
  · have HA := Lib.hid hall
    clear hall
    go_wp2_with fail
    go_ret
    refine ⟨_, rfl, ?_, hb1.mono hbase⟩
    rw [filter_none HA.out]
    exact HO.out.ext hb1
  · obtain ⟨b, off, hA⟩ : ∃ b off, A = some ⟨b, off, none⟩ := by
      cases A with
      | none =>
        rcases HO.out.2 with ⟨h1, h2⟩ | ⟨g, cap, cur, hv, _⟩
        · have := lt_of_get hx; omega
        · simp at hv
      | some a =>
        rcases HO.out.2 with ⟨h1, h2⟩ | ⟨g, cap, cur, hv, _⟩
        · simp at h1
        · simp only [Value.slice.injEq, Option.some.injEq] at hv
          exact ⟨g, 0, by rw [hv.1]⟩
    subst hA
    obtain rfl : off = 0 := by
      rcases HO.out.2 with ⟨h1, h2⟩ | ⟨g, cap, cur, hv, _⟩
      · simp at h1
      · simp only [Value.slice.injEq, Option.some.injEq, Addr.mk.injEq] at hv
        exact hv.1.2.1
    have hkl := lt_of_get hx
    have HD : Hid (DelInv p l l (k + 1) k) := Lib.hid (DelInv.start hx hpx hn)
    have hO1 : Own ivlC 2 w1 base 107 (.slice (some ⟨b, 0, none⟩) l.length c) l := HO.out.ext hb1
    have hB1 : Below base w w1 := hb1.mono hbase
    have hz1 := hb1.size
    have hne : ((k : Int) == -1) = false := by simp
    clear hx hpx hn hb1
    go_wp2_with fail
    go_loopw [5, 6] (fun u v wr => ∃ (i j : Nat) (m : List IvlD), u = .int .i64 i ∧ v = .int .i64 j ∧ j ≤ l.length ∧ Hid (DelInv p l m j i) ∧ Own ivlC 2 wr base 107 (.slice (some ⟨b, 0, none⟩) l.length c) m ∧ Below base w wr) (fun _ v _ => l.length - (intOf v).toNat)
    case atStart => exact ⟨k, k + 1, l, rfl, by go_num, by omega, HD, hO1, hB1⟩
    case round =>
      clear hO1 HD hB1 hne
      obtain ⟨i, j, m, rfl, rfl, hj, HD, hO, hB⟩ := hrel
      have hij := HD.out.lt
      have hml := HD.out.len
      obtain ⟨hnm, hbb, hmc, hcm, cs, hBk, hcs, hrow⟩ := hO.cells ivlC_len
      have HMC := Lib.hid hmc
      clear hnm hmc
      by_cases hlt : j < l.length
      case pos =>
        obtain ⟨x, hx⟩ := get_lt hlt
        have hmx := HD.out.rest j x (Nat.le_refl _) hx
        have x0 : wr.cell? ⟨b, j * 2, none⟩ = some (.int .i64 x.f) := by rw [hBk.cell]; have := hrow j x hmx 0 (by decide); simpa [ivlC] using this
        have x1 : wr.cell? ⟨b, j * 2 + 1, none⟩ = some (.int .i64 x.t) := by rw [hBk.cell]; have := hrow j x hmx 1 (by decide); simpa [ivlC] using this
        have hbl := hBk.lt
        obtain ⟨y, hy⟩ := get_lt (show i < m.length by omega)
        have y0 : cs[i * 2]? = some (.int .i64 y.f) := by have := hrow i y hy 0 (by decide); simpa [ivlC] using this
        have y1 : cs[i * 2 + 1]? = some (.int .i64 y.t) := by have := hrow i y hy 1 (by decide); simpa [ivlC] using this
        have hc := fun W => HP.out W x
        have HX := Lib.hid hx
        have HR := Lib.hid hrow
        have HM := Lib.hid hml
        clear hx hmx hy hrow hml
        cases hq : p x
        case true =>
          rw [hq] at hc
          go_wp2_with (go_at_fn fn; refine (hc _).mono ?_; rintro e w' ⟨rfl, hb'⟩)
          go_roundw
          case rel => exact ⟨i, j + 1, m, rfl, by go_num, by omega, Lib.hid (HD.out.skip HX.out hq), (hO.alloc _).ext hb', (hB.alloc (by have := hB.size; omega) _).trans (hb'.mono (by simp; have := hB.size; omega))⟩
          case measure => simp [intOf]; omega
        case false =>
          rw [hq] at hc
          go_wp2_with (go_at_fn fn; refine (hc _).mono ?_; rintro e w' ⟨rfl, hb'⟩; obtain ⟨q1, q2, q3⟩ := ((Blk.new wr 107 #[.int .i64 x.f, .int .i64 x.t]).ext hb').facts; obtain ⟨r0, r1, r2, r3⟩ := (show Blk w' b 107 cs ∧ (∀ i, w'.cell? ⟨b, i, none⟩ = cs[i]?) ∧ (∀ i, w'.frozen? ⟨b, i, none⟩ = false) ∧ b < w'.heap.size from ⟨(hBk.alloc _).ext hb', ((hBk.alloc _).ext hb').facts⟩))
          go_roundw
          case rel =>
            refine ⟨i + 1, j + 1, m.set i x, by go_num, by go_num, by omega, Lib.hid (HD.out.keep HX.out hq), ?_, ?_⟩
            · have h1 := (r0.set_ (i * 2) (.int .i64 x.f)).set_ (i * 2 + 1) (.int .i64 x.t)
              have h2 := Own.of_cells (enc := ivlC) (m := m.set i x) ivlC_len (by decide) h1 hbb (by rw [List.length_set]; exact HMC.out) hcm (by simpa using hcs) (HR.out.set (by rw [HM.out]; omega)
                (fun t ht => by
                  rw [Array.getElem?_setIfInBounds_ne (by omega), Array.getElem?_setIfInBounds_ne (by omega)])
                (fun t ht => by
                  have k1 : i * 2 + 1 < cs.size := (Array.getElem?_eq_some_iff.1 y1).1
                  match t, ht with
                  | 0, _ =>
                    show ((cs.setIfInBounds (i * 2) (.int .i64 x.f)).setIfInBounds (i * 2 + 1) (.int .i64 x.t))[i * 2]? = _
                    rw [Array.getElem?_setIfInBounds_ne (by omega), Array.getElem?_setIfInBounds_self_of_lt (by omega)]; rfl
                  | 1, _ => rw [Array.getElem?_setIfInBounds_self_of_lt (by simpa using k1)]; rfl))
              rwa [List.length_set, HM.out] at h2
            · have hz := hB.size
              exact (((hB.alloc (by omega) _).trans (hb'.mono (by simp; omega))).setCell hbb _).setCell hbb _
          case measure => simp [intOf]; omega
      case neg =>
        obtain rfl : j = l.length := by omega
        have hcl : ∀ ty, (Builtin.clear_ #[22] ty #[.slice (some ⟨b, i * 2, none⟩) (l.length - i) (c - i)]).run Tryz.prog wr = .ok (.tuple #[]) (wr.setCells b (i * 2) (Builtin.zeroCells (Value.agg #[.int .i64 0, .int .i64 0]).cells (l.length - i)).toList) := fun ty =>
          run_clear_row wr 22 107 ty (.agg #[.int .i64 0, .int .i64 0]) Tryz.underlying22 zeroIvl (by simp [Value.cells, Value.oneCell']) b (i * 2) _ _ (by omega)
            (fun t ht => by
              simp only [Value.cells, List.size_toArray, List.length_cons, List.length_nil] at ht
              rw [hBk.cell]
              have : i * 2 + t < cs.size := by have := HMC.out; omega
              simp [this])
            (fun t _ => hBk.frozen _)
        have HR := Lib.hid hrow
        have HM := Lib.hid hml
        have hic : i ≤ c := by have := HMC.out; omega
        have hil : i < l.length := by omega
        have hic2 : i < c := by have := HMC.out; omega
        have hic3 : ¬ c - i = 0 := by omega
        have hic4 : ¬ i = c := by omega
        have hic5 : ¬ c = i := by omega
        have hcmx : c ≤ 9223372036854775807 := hcm
        have hst := fun vs : List Value => Blk.setCells (t := 107) vs (i * 2) hBk
        obtain ⟨wz, hwz⟩ : ∃ wz, wz = wr.setCells b (i * 2) (Builtin.zeroCells (Value.agg #[.int .i64 0, .int .i64 0]).cells (l.length - i)).toList := ⟨_, rfl⟩
        have HWZ := Lib.hid hwz
        rw [← hwz] at hcl
        clear hrow hml hwz
        go_wp2_with fail
        go_ret
        obtain ⟨cs', k1, k2, k3⟩ := hst (Builtin.zeroCells (Value.agg #[.int .i64 0, .int .i64 0]).cells (l.length - i)).toList
        rw [← HWZ.out] at k1
        have hfin := HD.out.fin (Nat.le_refl _)
        have hcnt := HD.out.count (Nat.le_refl _) hij
        refine ⟨_, rfl, ?_, ?_⟩
        · have h2 := Own.of_cells (enc := ivlC) (m := m.take i) ivlC_len (by decide) k1 hbb (by rw [hfin, hcnt]; exact hic) hcm (by rw [k2]; exact hcs) (fun q x hx j hj => by
            have hq : q < i := by have := lt_of_get hx; rw [hfin, hcnt] at this; exact this
            rw [k3 _ (by omega)]
            exact HR.out.take i q x hx j hj)
          rw [hfin, hcnt] at h2
          exact h2
        · rw [HWZ.out]
          exact below_setCells hbb _ _ hB
end Go.Proofs.YtdpibehpmghghaaGreat
/- A region that draws its order and keeps a condition: two operations that may come up in either order. -/
namespace Go.Proofs.YtdpibehpmghghaaGreat
open Go Go.RowKit

section
variable {P : Program} {ops : Array Oper} {Q : Exit → Act → World → Prop} {md : Region.Mode} {S : World → Prop}
theorem anyH_begin {id : Nat} {a : Act} {w : World} (S : World → Prop) (hm : P.follows .mixedOrders = true) (h : wpAnyH P .any ops Q S ops.size (Array.replicate ops.size false) a w.drew) : (Code.region id ops true).wp P Q a w := wp_region_held (S := S) hm h
theorem anyH_two {i j : Nat} {oi oj : Oper} {f : Nat} {listed : Array Bool} {a : Act} {w : World} (hi : ops[i]? = some oi) (hj : ops[j]? = some oj)
    (hr : (Region.ready md ops listed == [i, j] && Region.wanted oi (yielded ops a.tmps) && Region.wanted oj (yielded ops a.tmps)) = true)
    (h1 : ∀ K : Act → World → Prop, Hid (∀ a' w', (S w' ∧ wpAnyH P md ops Q S f (listed.setIfInBounds i true) a' w') → K a' w') → Oper.wp P oi a w K Q)
    (h2 : ∀ K : Act → World → Prop, Hid (∀ a' w', (S w' ∧ wpAnyH P md ops Q S f (listed.setIfInBounds j true) a' w') → K a' w') → Oper.wp P oj a w K Q) : wpAnyH P md ops Q S (f + 1) listed a w := by
  simp only [Bool.and_eq_true, beq_iff_eq] at hr
  obtain ⟨⟨hr, hwi⟩, hwj⟩ := hr
  refine ⟨fun h0 => (by rw [h0] at hr; cases hr), fun k hk => ?_⟩
  rw [hr] at hk
  have hk2 : k = i ∨ k = j := by simpa using hk
  rcases hk2 with rfl | rfl
  · unfold wpOp
    simp only [hi, hwi, if_true]
    exact .inl (h1 _ (Lib.hid fun _ _ h => h))
  · unfold wpOp
    simp only [hj, hwj, if_true]
    exact .inl (h2 _ (Lib.hid fun _ _ h => h))
end
end Go.Proofs.YtdpibehpmghghaaGreat
/- The walk of slices.Clone over legs. -/
namespace Go.Proofs.YtdpibehpmghghaaGreat
open Go.RowKit

def legC (x : LegD) : List Value := [.int .i64 x.f, .int .i64 x.t, .int .i64 x.time, .int .i64 x.cost]
theorem info_leg4 : (Tryz.prog.info? 77).map (fun i => (i.zero, i.size, i.bytes)) = some (some (.agg #[.int .i64 0, .int .i64 0, .int .i64 0, .int .i64 0]), 4, 32) := by kernel_rfl
theorem info_leg2 : ∃ i, Tryz.prog.info? 77 = some i ∧ i.zero = some (.agg #[.int .i64 0, .int .i64 0, .int .i64 0, .int .i64 0]) ∧ i.size = 4 ∧ i.bytes = 32 := by
  obtain ⟨i0, hi, hzz⟩ := Option.map_eq_some_iff.1 info_leg4
  simp only [Prod.mk.injEq] at hzz
  exact ⟨i0, hi, hzz.1, hzz.2.1, hzz.2.2⟩
theorem flat_get {l : List LegD} {k : Nat} {x : LegD} (h : l[k]? = some x) : (l.flatMap legC)[k * 4]? = some (.int .i64 x.f) ∧ (l.flatMap legC)[k * 4 + 1]? = some (.int .i64 x.t) ∧ (l.flatMap legC)[k * 4 + 2]? = some (.int .i64 x.time) ∧ (l.flatMap legC)[k * 4 + 3]? = some (.int .i64 x.cost) := by
  induction l generalizing k with
  | nil => simp at h
  | cons y l ih =>
    cases k with
    | zero =>
      obtain rfl : y = x := by simpa using h
      simp [legC]
    | succ k =>
      have ih := ih (k := k) (by simpa using h)
      rw [List.flatMap_cons]
      have e : ∀ j, (k + 1) * 4 + j = 4 + (k * 4 + j) := fun j => by omega
      have hl : (legC y).length = 4 := rfl
      refine ⟨?_, ?_, ?_, ?_⟩
      · rw [show (k + 1) * 4 = 4 + k * 4 by omega, List.getElem?_append_right (by omega), hl, Nat.add_sub_cancel_left]; exact ih.1
      · rw [e 1, List.getElem?_append_right (by omega), hl, Nat.add_sub_cancel_left]; exact ih.2.1
      · rw [e 2, List.getElem?_append_right (by omega), hl, Nat.add_sub_cancel_left]; exact ih.2.2.1
      · rw [e 3, List.getElem?_append_right (by omega), hl, Nat.add_sub_cancel_left]; exact ih.2.2.2
theorem flat_back {l : List LegD} {j : Nat} {u : Value} (h : (l.flatMap legC)[j]? = some u) : ∃ (k : Nat) (x : LegD) (i : Nat), l[k]? = some x ∧ j = k * 4 + i ∧ (legC x)[i]? = some u := by
  induction l generalizing j with
  | nil => simp at h
  | cons y l ih =>
    rw [List.flatMap_cons] at h
    by_cases hj : j < 4
    · rw [List.getElem?_append_left (by show j < 4; exact hj)] at h
      exact ⟨0, y, j, rfl, by omega, h⟩
    · rw [List.getElem?_append_right (by show 4 ≤ j; omega)] at h
      obtain ⟨k, x, i, h1, h2, h3⟩ := ih (j := j - 4) h
      exact ⟨k + 1, x, i, by simpa using h1, by omega, h3⟩
theorem flat_lenC (l : List LegD) : (l.flatMap legC).length = l.length * 4 := by
  induction l with
  | nil => rfl
  | cons x l ih => rw [List.flatMap_cons, List.length_append, ih, List.length_cons]; show 4 + _ = _; omega
theorem Own.lown {w : World} {base : Nat} {A : Option Addr} {n c : Nat} {l : List LegD} (h : Own legC 4 w base 77 (.slice A n c) l) : LOwn w A l := fun h0 => by
  rcases h.2 with ⟨h1, h2⟩ | ⟨g, cap, cur, hv, hg, hh, hnc, hcm, hcs, htake⟩
  · omega
  · injection hv with h1 h2 h3
    subst h1
    refine ⟨g, cur, rfl, hh, fun k x hk => ?_⟩
    have hl := lt_of_get hk
    obtain ⟨q0, q1, q2, q3⟩ := flat_get hk
    rw [← htake] at q0 q1 q2 q3
    rw [List.getElem?_take_of_lt (by omega)] at q0 q1 q2 q3
    exact ⟨by simpa using q0, by simpa using q1, by simpa using q2, by simpa using q3⟩
theorem legs_one (l : List LegD) : ∀ u ∈ l.flatMap legC, u.oneCell' = true := fun u hu => by
  obtain ⟨x, _, hx⟩ := List.mem_flatMap.1 hu
  simp only [legC, List.mem_cons, List.not_mem_nil, or_false] at hx
  rcases hx with rfl | rfl | rfl | rfl <;> rfl
/-- A list of legs is told, in a block of its own. -/
def CloneOut (l : List LegD) (w : World) (e : Ending) (w' : World) : Prop := ∃ A c, e = .returned (.slice A l.length c) ∧ LOwn w' A l ∧ l.length ≤ c ∧ c ≤ maxLen ∧ Below w.heap.size w w'

end Go.Proofs.YtdpibehpmghghaaGreat
/- A region that draws its order, of which one operation writes: a condition on the world is kept until that one is done, and others may come behind it. -/
namespace Go.Proofs.YtdpibehpmghghaaGreat
open Go Go.RowKit

section
variable {P : Program} {ops : Array Oper} {Q : Exit → Act → World → Prop} {md : Region.Mode} {S : World → Prop}
/-- Whatever order is picked: S holds as long as operation n is not done. -/
def WpE (P : Program) (md : Region.Mode) (ops : Array Oper) (Q : Exit → Act → World → Prop) (S : World → Prop) (n : Nat) : Nat → Array Bool → Act → World → Prop
  | 0, listed, a, w => Region.ready md ops listed = [] ∧ Q .normal a w
  | f + 1, listed, a, w => (Region.ready md ops listed = [] → Q .normal a w) ∧
      ∀ i ∈ Region.ready md ops listed, wpOp P ops Q i (fun a' w' => ((listed.setIfInBounds i true).getD n true = false → S w') ∧ WpE P md ops Q S n f (listed.setIfInBounds i true) a' w') a w
theorem WpE.any {n : Nat} : ∀ (f : Nat) (listed : Array Bool) (a : Act) (w : World), WpE P md ops Q S n f listed a w → wpAny P md ops Q f listed a w
  | 0, _, _, _, h => h
  | f + 1, _, _, _, h => ⟨h.1, fun i hi => wpOp_mono (fun _ _ h' => h'.2.any f _ _ _) (h.2 i hi)⟩
/-- n waits for i. -/
def waitsB (md : Region.Mode) (ops : Array Oper) (n i : Nat) : Bool := match ops[n]? with
  | some o => o.after.any fun e => Region.binds md e && e.on == i
  | none => false
theorem waitsB_spec {n i : Nat} (h : waitsB md ops n i = true) {listed : Array Bool} (hu : listed.getD i true = false) : n ∉ Region.ready md ops listed := fun hn => by
  obtain ⟨_, oj, hoj, hall⟩ := mem_ready.1 hn
  unfold waitsB at h
  rw [hoj] at h
  obtain ⟨e, he, h2⟩ := Array.any_eq_true'.1 h
  simp only [Bool.and_eq_true, beq_iff_eq] at h2
  have h3 := hall e he h2.1
  rw [h2.2, getD_both hu] at h3
  cases h3
theorem WpE.first {n i : Nat} {oi : Oper} {v : Value} {T : World → Prop} (hi : ops[i]? = some oi) (hsel : ∀ (j : Nat) (o : Oper) cs b, ops[j]? = some o → o.op ≠ .select cs b)
    (hQ : ∀ c a w, Q (.panic c) (a.put oi.dst v) w → Q (.panic c) a w) (hin : i ≠ n) (hT : (waitsB md ops n i = true ∧ T = S) ∨ T = fun _ => True) (f : Nat) :
    ∀ (listed : Array Bool) (a : Act) (w : World),
      (∀ j oj, ops[j]? = some oj → j ≠ i → listed.getD j true = false → (∀ e ∈ oj.after, Region.binds md e = true → e.on ≠ i) → oi.apart ops oj = true) →
      i ∈ Region.ready md ops listed → YieldsIf P ops T oi v a → (listed.getD n true = false → S w) → (T = S → listed.getD n true = false ∨ T = fun _ => True) → WpE P md ops Q S n f (listed.setIfInBounds i true) (a.put oi.dst v) w → WpE P md ops Q S n (f + 1) listed a w := by
  have hTw : ∀ (listed : Array Bool) w, (listed.getD n true = false → S w) → (T = S → listed.getD n true = false ∨ T = fun _ => True) → T w := fun listed w hS hl => by
    rcases hT with ⟨_, h⟩ | h
    · rcases hl h with h2 | h2
      · rw [h]; exact hS h2
      · rw [h2]; trivial
    · rw [h]; trivial
  induction f with
  | zero =>
    intro listed a w _ hr hy hS hl H
    refine ⟨fun h => (by rw [h] at hr; cases hr), fun j hj => ?_⟩
    by_cases hji : j = i
    · subst hji; exact hy.wpOp hi (hTw listed w hS hl) ⟨fun h => hS (by rwa [getD_set_ne true hin] at h), H⟩
    · have h1 := ready_mono hj hji
      rw [H.1] at h1
      cases h1
  | succ f ih =>
    intro listed a w hfree hr hy hS hl H
    have hun := (mem_ready.1 hr).1
    refine ⟨fun h => (by rw [h] at hr; cases hr), fun j hj => ?_⟩
    by_cases hji : j = i
    · subst hji; exact hy.wpOp hi (hTw listed w hS hl) ⟨fun h => hS (by rwa [getD_set_ne true hin] at h), H⟩
    · obtain ⟨hjun, oj, hoj, hall⟩ := mem_ready.1 hj
      have hnot : ∀ e ∈ oj.after, Region.binds md e = true → e.on ≠ i := fun e he hb heq => by
        have h2 := hall e he hb
        rw [heq, getD_both hun] at h2
        cases h2
      have h2 := wpOp_putIf hoj (hfree j oj hoj hji hjun hnot) (fun cs b => hsel i oi cs b hi) (fun cs b => hsel j oj cs b hoj) hQ hy (H.2 j (ready_mono hj hji))
      have hsw : ((listed.setIfInBounds i true).setIfInBounds j true).getD n true = (listed.setIfInBounds j true).getD n true := by
        rw [Array.setIfInBounds_comm _ _ (Ne.symm hji), getD_set_ne true hin]
      refine wpOp_mono (fun a' w' h3 => ⟨fun h => h3.2.1 (by rw [hsw]; exact h), ih (listed.setIfInBounds j true) a' w' (fun k ok hk hki hu hno => hfree k ok hk hki ?_ hno) (ready_mono hr (Ne.symm hji)) h3.1 (fun h => h3.2.1 (by rw [hsw]; exact h)) (fun hTS => ?_) ?_⟩) h2
      · by_cases hjk : j = k
        · subst hjk; exact hjun
        · rw [getD_set_ne true hjk] at hu; exact hu
      · rcases hT with ⟨hw, _⟩ | h
        · have hjn : j ≠ n := fun e => waitsB_spec hw hun (e ▸ hj)
          rcases hl hTS with h4 | h4
          · exact .inl (by rw [getD_set_ne true hjn]; exact h4)
          · exact .inr h4
        · exact .inr h
      · rw [Array.setIfInBounds_comm _ _ hji]
        exact h3.2.2
/-- Take number i first, which reads what S tells; n waits for it. -/
theorem WpE.takeD {n i : Nat} {oi : Oper} {v : Value} {f : Nat} {listed : Array Bool} {a : Act} {w : World} {d : Nat} (hi : ops[i]? = some oi) (hd : oi.dst = some d)
    (hB : (Region.noSelect ops && Region.free md ops listed i && (Region.ready md ops listed).contains i && waitsB md ops n i && decide (i ≠ n) && !listed.getD n true) = true)
    (hQ : ∀ c a w, Q (.panic c) (a.put (some d) v) w → Q (.panic c) a w) (hy : YieldsIf P ops S oi v a) (hS : S w)
    (h : WpE P md ops Q S n f (listed.setIfInBounds i true) (a.put (some d) v) w) : WpE P md ops Q S n (f + 1) listed a w := by
  simp only [Bool.and_eq_true, decide_eq_true_eq, Bool.not_eq_true'] at hB
  obtain ⟨⟨⟨⟨⟨b1, b2⟩, b3⟩, b4⟩, b5⟩, b6⟩ := hB
  rw [← hd] at hQ h
  exact WpE.first (T := S) hi (Region.noSelect_spec b1) hQ b5 (.inl ⟨b4, rfl⟩) f listed a w (Region.free_spec hi b2) (by simpa using b3) hy (fun _ => hS) (fun _ => .inl b6) h
/-- Take number i first, which reads no memory. -/
theorem WpE.freeD {n i : Nat} {oi : Oper} {v : Value} {f : Nat} {listed : Array Bool} {a : Act} {w : World} {d : Nat} (hi : ops[i]? = some oi) (hd : oi.dst = some d)
    (hB : (Region.noSelect ops && Region.free md ops listed i && (Region.ready md ops listed).contains i && decide (i ≠ n)) = true)
    (hQ : ∀ c a w, Q (.panic c) (a.put (some d) v) w → Q (.panic c) a w) (hy : YieldsIf P ops (fun _ => True) oi v a) (hS : S w)
    (h : WpE P md ops Q S n f (listed.setIfInBounds i true) (a.put (some d) v) w) : WpE P md ops Q S n (f + 1) listed a w := by
  simp only [Bool.and_eq_true, decide_eq_true_eq] at hB
  obtain ⟨⟨⟨b1, b2⟩, b3⟩, b4⟩ := hB
  rw [← hd] at hQ h
  exact WpE.first (T := fun _ => True) hi (Region.noSelect_spec b1) hQ b4 (.inr rfl) f listed a w (Region.free_spec hi b2) (by simpa using b3) hy (fun _ => hS) (fun _ => .inr rfl) h
/-- One alone may come up. -/
theorem WpE.one {n i : Nat} {oi : Oper} {f : Nat} {listed : Array Bool} {a : Act} {w : World} (hi : ops[i]? = some oi) (hr : (Region.ready md ops listed == [i] && Region.wanted oi (yielded ops a.tmps)) = true)
    (h : ∀ K : Act → World → Prop, Hid (∀ a' w', (((listed.setIfInBounds i true).getD n true = false → S w') ∧ WpE P md ops Q S n f (listed.setIfInBounds i true) a' w') → K a' w') → Oper.wp P oi a w K Q) : WpE P md ops Q S n (f + 1) listed a w := by
  simp only [Bool.and_eq_true, beq_iff_eq] at hr
  obtain ⟨hr, hw⟩ := hr
  refine ⟨fun h0 => (by rw [h0] at hr; cases hr), fun j hj => ?_⟩
  rw [hr] at hj
  obtain rfl : j = i := by simpa using hj
  unfold wpOp
  simp only [hi, hw, if_true]
  exact .inl (h _ (Lib.hid fun _ _ h => h))
theorem WpE.done {n : Nat} {listed : Array Bool} {a : Act} {w : World} (hr : Region.ready md ops listed = []) (h : Q .normal a w) : ∀ f, WpE P md ops Q S n f listed a w
  | 0 => ⟨hr, h⟩
  | _ + 1 => ⟨fun _ => h, by rw [hr]; simp⟩
theorem WpE.begin {id : Nat} {a : Act} {w : World} (n : Nat) (hm : P.follows .mixedOrders = true) (h : WpE P .any ops Q S n ops.size (Array.replicate ops.size false) a w.drew) : (Code.region id ops true).wp P Q a w :=
  wp_region_any hm (h.any _ _ _ _)
end
end Go.Proofs.YtdpibehpmghghaaGreat
/- An append that keeps a condition on all cells of the row, those that are not told too. -/
namespace Go.Proofs.YtdpibehpmghghaaGreat
open Go.RowKit

/-- All cells of the block that a slice owns. -/
def AllC (Z : Value → Prop) (w : World) (v : Value) : Prop := ∀ g, v.ownBlock = some g → ∀ cs t fr, w.heap[g]? = some (.cells cs t fr) → ∀ (i : Nat) u, cs[i]? = some u → Z u
theorem zeroCells_all {Z : Value → Prop} {z : Array Value} (hz : ∀ (i : Nat) u, z[i]? = some u → Z u) (hs : 0 < z.size) (n : Nat) : ∀ (i : Nat) u, (Builtin.zeroCells z n)[i]? = some u → Z u := fun i u h => by
  unfold Builtin.zeroCells at h
  rw [Array.getElem?_map] at h
  obtain ⟨k, hk, rfl⟩ := Option.map_eq_some_iff.1 h
  have hlt : k % z.size < z.size := Nat.mod_lt _ hs
  refine hz (k % z.size) _ ?_
  rw [Array.getElem?_eq_getElem hlt, getElem!_pos z (k % z.size) hlt]
theorem get_app {Z : Value → Prop} {a b : Array Value} (ha : ∀ (i : Nat) u, a[i]? = some u → Z u) (hb : ∀ (i : Nat) u, b[i]? = some u → Z u) : ∀ (i : Nat) u, (a ++ b)[i]? = some u → Z u := fun i u h => by
  rw [Array.getElem?_append] at h
  split at h
  · exact ha _ _ h
  · exact hb _ _ h
theorem run_append_all {Z : Value → Prop} {P : Program} (w : World) (base : Nat) (t ty e : TypeId) (i : TypeInfo) (z : Value) (size bytes : Nat) (ht : P.underlying t = some (.slice e)) (hi : P.info? e = some i) (hz : i.zero = some z)
    (hsize : i.size = size) (hby : i.bytes = bytes) (hzs : z.cells.size = size) (hsz : 0 < size)
    (v : Value) (n : Nat) (xs : List Value) (hown : w.ownsRow base e size v n xs)
    (a : Addr) (m c : Nat) (news : List Value) (hl : news.length = m * size) (hnews : ∀ j u, news[j]? = some u → w.cell? (a.add j) = some u) (h1 : ∀ u ∈ news, u.oneCell' = true)
    (h63 : n + m ≤ maxLen) (hbytes : (n + m) * bytes ≤ 140737488355328) (hbase : base ≤ w.heap.size)
    (hZ : AllC Z w v) (hZz : ∀ (i : Nat) u, z.cells[i]? = some u → Z u) (hZn : ∀ u ∈ news, Z u) (hZx : ∀ u ∈ xs, Z u) :
    ∃ v' w', (Builtin.append_ #[t, t] ty #[v, .slice (some a) m c]).run P w = .ok v' w' ∧ w'.ownsRow base e size v' (n + m) (xs ++ news) ∧ w.grownBy w' v.ownBlock ∧ AllC Z w' v' := by
  obtain ⟨v', w', hr, h2, h3, h4⟩ := run_append_own (P := P) w base t ty e i z size bytes ht hi hz hsize hby hzs hsz v n xs hown a m c news hl hnews h1 h63 hbytes hbase
  refine ⟨v', w', hr, h2, h3, ?_⟩
  subst hsize
  subst hby
  have hsmall : n + m ≤ 9223372036854775807 := by simp only [maxLen] at h63; omega
  have hZa : ∀ (i : Nat) u, news.toArray[i]? = some u → Z u := fun i u hu => hZn u (by simp at hu; exact List.mem_of_getElem? hu)
  have hZxa : ∀ (i : Nat) u, xs.toArray[i]? = some u → Z u := fun i u hu => hZx u (by simp at hu; exact List.mem_of_getElem? hu)
  have hZ0 : ∀ n, ∀ (i : Nat) u, (Builtin.zeroCells z.cells n)[i]? = some u → Z u := zeroCells_all hZz (by rw [hzs]; exact hsz)
  have newC : ∀ (cells : Array Value) (k c2 : Nat) (b : Nat) (hb : b = w.heap.size), (∀ (i : Nat) u, cells[i]? = some u → Z u) → AllC Z (w.drew.alloc (.cells cells e)) (.slice (some ⟨b, 0, none⟩) k c2) := fun cells k c2 b hb hc g hg cs t2 fr hh => by
    simp only [Value.ownBlock, Option.some.injEq] at hg
    subst hg hb
    rw [show (w.drew.alloc (.cells cells e)).heap[w.heap.size]? = some (.cells cells e (0, 0)) from heap_alloc_new w.drew _] at hh
    cases hh
    exact hc
  rcases hown.2 with ⟨rfl, rfl⟩ | ⟨g, cap, cur, rfl, hbg, hg, hnc, hcm, hcs, htake⟩
  · by_cases hm : m = 0
    · have e0 := h4.2 ⟨rfl, hm⟩
      subst e0
      intro g hg
      simp [Value.ownBlock] at hg
    · have hr2 := run_append_nil (P := P) w t ty e i z ht hi hz a m c news hl hnews (by omega) (by omega) (by have hb := hbytes; simp only [Nat.zero_add] at hb; omega)
      rw [hr] at hr2
      cases hr2
      exact newC _ _ _ _ rfl (get_app hZa (hZ0 _))
  · by_cases hroom : n + m ≤ cap
    · have hfit : n * i.size + news.length ≤ cur.size := by rw [hl, hcs, ← Nat.add_mul]; exact Nat.mul_le_mul_right _ hroom
      have hr2 := run_append_room (P := P) w t ty e i ht hi g n cap cur hg a m c news hl hnews h1 hroom hfit
      rw [hr] at hr2
      cases hr2
      intro g2 hg2 cs t2 fr hh
      simp only [Value.ownBlock, Option.some.injEq] at hg2
      subst hg2
      rw [setRow_heap w g cur _ e _ hg] at hh
      cases hh
      have hcur : ∀ u, u ∈ cur.toList → Z u := fun u hu => by
        obtain ⟨k, hk⟩ := List.getElem?_of_mem hu
        exact hZ g rfl cur e (0, 0) hg k u (by simpa using hk)
      intro k u hu
      have hu := List.mem_of_getElem? (show (cur.toList.take (n * i.size) ++ news ++ cur.toList.drop (n * i.size + news.length))[k]? = some u by simpa using hu)
      rcases List.mem_append.1 hu with hu | hu
      · rcases List.mem_append.1 hu with hu | hu
        · exact hcur u (List.mem_of_mem_take hu)
        · exact hZn u hu
      · exact hcur u (List.mem_of_mem_drop hu)
    · have holds : ∀ j u, xs[j]? = some u → w.cell? ((⟨g, 0, none⟩ : Addr).add j) = some u := hown.cells (g := g) rfl
      have hr2 := run_append_grow (P := P) w t ty e i z ht hi hz ⟨g, 0, none⟩ n cap xs hown.1 holds a m c news hl hnews (by omega) (by omega) (growslice_fits (by omega) hbytes)
      rw [hr] at hr2
      cases hr2
      exact newC _ _ _ _ rfl (get_app (get_app hZxa hZa) (hZ0 _))
/-- An append of one element to an owned list: all cells of the row are as before, or of the element, or nought. -/
theorem wpList_append_all {Z : Value → Prop} {P : Program} {ops : Array Oper} {rest : List Oper} {o : Oper} {a : Act} {Q : Exit → Act → World → Prop} {w0 : World} {α : Type} {enc : α → List Value} (hgd : o.guard = none) (s x : Operand) (t : TypeId)
    (ho : o.op = .call { callee := .builtin .append, args := #[s, x], argTypes := #[t, t] })
    (base : Nat) (e : TypeId) (i : TypeInfo) (z : Value) (size bytes : Nat) (ht : P.underlying t = some (.slice e)) (hi : P.info? e = some i) (hz : i.zero = some z)
    (hsize : i.size = size) (hby : i.bytes = bytes) (hzs : z.cells.size = size) (hsz : 0 < size)
    (v : Value) (l : List α) (y : α) (hs : a.eval s = v) (hown : Own enc size w0 base e v l) (cs : Array Value) (hcy : cs.toList = enc y) (k : Nat) (hk : k = w0.heap.size) (hx : a.eval x = .slice (some ⟨k, 0, none⟩) 1 1) (hcs : cs.size = size)
    (h1 : ∀ u ∈ cs.toList, u.oneCell' = true) (h63 : l.length + 1 ≤ 1000000) (hby2 : bytes ≤ 1000) (hbase : base ≤ w0.heap.size)
    (hZ : AllC Z w0 v) (hZz : ∀ (i : Nat) u, z.cells[i]? = some u → Z u) (hZn : ∀ u ∈ cs.toList, Z u) (hZx : ∀ u ∈ l.flatMap enc, Z u)
    (h : ∀ v' w', Own enc size w' base e v' (l ++ [y]) → Below base w0 w' → (∀ b t' cs', Blk w0 b t' cs' → t' ≠ e → Blk w' b t' cs') → AllC Z w' v' → wpList P ops Q rest (a.put o.dst v') w') : wpList P ops Q (o :: rest) a (w0.alloc (.cells cs e)) := by
  subst hk
  have hb2 : (l.length + 1) * bytes ≤ 140737488355328 := Nat.le_trans (Nat.mul_le_mul h63 hby2) (by decide)
  refine wpList_plain hgd fun K hK => ?_
  have hZ1 : AllC Z (w0.alloc (.cells cs e)) v := fun g hg cs2 t2 fr hh => by
    have hlt := (World.ownsRow.lt hown g hg).2
    rw [Below.heap_alloc w0 _ g hlt] at hh
    exact hZ g hg cs2 t2 fr hh
  obtain ⟨v', w', hr, h2, h3, h4⟩ := run_append_all (Z := Z) (P := P) (w0.alloc (.cells cs e)) base t o.type e i z size bytes ht hi hz hsize hby hzs hsz v l.length (l.flatMap enc) (World.ownsRow.alloc hown _) ⟨w0.heap.size, 0, none⟩ 1 1 cs.toList (by simp [hcs])
    (fun j u hu => by
      rw [Go.WideShapes.add_plain, cell_of_row _ _ _ cs e (0, 0) (heap_alloc_new w0 _)]
      simpa using hu) h1 (by unfold maxLen; omega) hb2 (by simp; omega) hZ1 hZz hZn hZx
  unfold Oper.wp execOp
  simp only [ho, resolve, invoke, builtin, Sem.run_bind, Sem.run_pure, Result.andThen_ok, List.map_toArray, List.map_cons, List.map_nil, hs, hx, hr]
  refine hK _ _ (h v' w' ?_ ?_ (fun b t' cs' hB ht' => (hB.alloc _).grown h3 (hown.other hB ht')) h4)
  · show w'.ownsRow base e size v' (l ++ [y]).length ((l ++ [y]).flatMap enc)
    rw [List.flatMap_append, List.length_append]
    simpa [hcy] using h2
  · have hb : Below base w0 (w0.alloc (.cells cs e)) := (Below.refl _ _).alloc hbase _
    exact hb.grown h3 (by simp; omega) fun k hk => (World.ownsRow.lt hown k hk).1
end Go.Proofs.YtdpibehpmghghaaGreat
