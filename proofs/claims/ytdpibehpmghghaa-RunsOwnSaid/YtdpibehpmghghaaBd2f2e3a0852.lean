/- Several texts in one: Head, Held, Two, IvlDelW. -/
import Derived.OrdersHeld
import Derived.StillTail
import Derived.Deep.RegionHeld3
import Derived.Maps.AppendAt
import Derived.Test.YtdpibehpmghghaaBd8d00ac2edb
import Derived.Test.YtdpibehpmghghaaBd20f32e1654
import Derived.Test.YtdpibehpmghghaaBddaaa0efefd
/- A region that draws its order and ends in an operation that waits for all others: a condition on the world is kept up to that last operation alone. -/
namespace Go.Proofs.Ytdpibehpmghghaa
open Go Go.RowKit

section
variable {P : Program} {ops : Array Oper} {Q : Exit → Act → World → Prop} {md : Region.Mode} {S : World → Prop}
/-- Whatever order is picked: behind each of the first n operations S holds. -/
def WpN (P : Program) (md : Region.Mode) (ops : Array Oper) (Q : Exit → Act → World → Prop) (S : World → Prop) (n : Nat) : Nat → Array Bool → Act → World → Prop
  | 0, listed, a, w => Region.ready md ops listed = [] ∧ Q .normal a w
  | f + 1, listed, a, w => (Region.ready md ops listed = [] → Q .normal a w) ∧
      ∀ i ∈ Region.ready md ops listed, wpOp P ops Q i (fun a' w' => (i < n → S w') ∧ WpN P md ops Q S n f (listed.setIfInBounds i true) a' w') a w
theorem WpN.any {n : Nat} : ∀ (f : Nat) (listed : Array Bool) (a : Act) (w : World), WpN P md ops Q S n f listed a w → wpAny P md ops Q f listed a w
  | 0, _, _, _, h => h
  | f + 1, _, _, _, h => ⟨h.1, fun i hi => wpOp_mono (fun _ _ h' => h'.2.any f _ _ _) (h.2 i hi)⟩
theorem WpN.first {n i : Nat} {oi : Oper} {v : Value} (hi : ops[i]? = some oi) (hsel : ∀ (j : Nat) (o : Oper) cs b, ops[j]? = some o → o.op ≠ .select cs b)
    (hQ : ∀ c a w, Q (.panic c) (a.put oi.dst v) w → Q (.panic c) a w) (hs : Region.sinkB md ops n = true) (hc : Region.chainB md ops n = true) (hn : n < ops.size) (hin : i < n) (f : Nat) :
    ∀ (listed : Array Bool) (a : Act) (w : World), HeadInv md ops n listed →
      (∀ j oj, ops[j]? = some oj → j ≠ i → listed.getD j true = false → (∀ e ∈ oj.after, Region.binds md e = true → e.on ≠ i) → oi.apart ops oj = true) →
      i ∈ Region.ready md ops listed → YieldsIf P ops S oi v a → S w → WpN P md ops Q S n f (listed.setIfInBounds i true) (a.put oi.dst v) w → WpN P md ops Q S n (f + 1) listed a w := by
  induction f with
  | zero =>
    intro listed a w inv _ hr hy hS H
    refine ⟨fun h => (by rw [h] at hr; cases hr), fun j hj => ?_⟩
    by_cases hji : j = i
    · subst hji; exact hy.wpOp hi hS ⟨fun _ => hS, H⟩
    · have h1 := ready_mono hj hji
      rw [H.1] at h1
      cases h1
  | succ f ih =>
    intro listed a w inv hfree hr hy hS H
    have hun := (mem_ready.1 hr).1
    refine ⟨fun h => (by rw [h] at hr; cases hr), fun j hj => ?_⟩
    have hjn : j < n := by
      rcases Nat.lt_or_ge j n with h | h
      · exact h
      · exact absurd hj (tail_waits hs hc hn inv _ i rfl hin hun j h)
    by_cases hji : j = i
    · subst hji; exact hy.wpOp hi hS ⟨fun _ => hS, H⟩
    · obtain ⟨hjun, oj, hoj, hall⟩ := mem_ready.1 hj
      have hnot : ∀ e ∈ oj.after, Region.binds md e = true → e.on ≠ i := fun e he hb heq => by
        have h2 := hall e he hb
        rw [heq, getD_both hun] at h2
        cases h2
      have h2 := wpOp_putIf hoj (hfree j oj hoj hji hjun hnot) (fun cs b => hsel i oi cs b hi) (fun cs b => hsel j oj cs b hoj) hQ hy (H.2 j (ready_mono hj hji))
      refine wpOp_mono (fun a' w' h3 => ⟨h3.2.1, ih (listed.setIfInBounds j true) a' w' (inv.set hj hjn) (fun k ok hk hki hu hno => hfree k ok hk hki ?_ hno) (ready_mono hr (Ne.symm hji)) h3.1 (h3.2.1 hjn) ?_⟩) h2
      · by_cases hjk : j = k
        · subst hjk; exact hjun
        · rw [getD_set_ne true hjk] at hu; exact hu
      · rw [Array.setIfInBounds_comm _ _ hji]
        exact h3.2.2
/-- The numbers that are listed, and that the rest is as it must be: one closed fact. -/
def headB (md : Region.Mode) (ops : Array Oper) (n : Nat) (listed : Array Bool) : Bool :=
  decide (listed.size = ops.size) && (List.range ops.size).all fun j => (decide (j < n) || !listed.getD j true) && (!listed.getD j false || match ops[j]? with
    | some oj => oj.after.all fun e => !Region.binds md e || listed.getD e.on false
    | none => true)
theorem headB_inv {n : Nat} {listed : Array Bool} (h : headB md ops n listed = true) : HeadInv md ops n listed := by
  simp only [headB, Bool.and_eq_true, decide_eq_true_eq, List.all_eq_true, List.mem_range] at h
  obtain ⟨h1, h2⟩ := h
  refine ⟨h1, fun j oj hj hl e he hb => ?_, fun t ht ht' => ?_⟩
  · have h3 := (h2 j (Array.getElem?_eq_some_iff.1 hj).1).2
    rw [hl, hj] at h3
    simp only [Bool.not_true, Bool.false_or] at h3
    have h4 := Array.all_eq_true'.1 h3 e he
    simpa [hb] using h4
  · have h3 := (h2 t ht').1
    simp only [Bool.or_eq_true, decide_eq_true_eq, Bool.not_eq_true'] at h3
    rcases h3 with h3 | h3
    · omega
    · exact h3
/-- Take number i first. -/
theorem WpN.take {n i : Nat} {oi : Oper} {v : Value} {f : Nat} {listed : Array Bool} {a : Act} {w : World} (hi : ops[i]? = some oi)
    (hB : (Region.noSelect ops && Region.free md ops listed i && (Region.ready md ops listed).contains i && Region.sinkB md ops n && Region.chainB md ops n && decide (n < ops.size) && decide (i < n) && headB md ops n listed) = true)
    (hQ : ∀ c a w, Q (.panic c) (a.put oi.dst v) w → Q (.panic c) a w) (hy : YieldsIf P ops S oi v a) (hS : S w)
    (h : WpN P md ops Q S n f (listed.setIfInBounds i true) (a.put oi.dst v) w) : WpN P md ops Q S n (f + 1) listed a w := by
  simp only [Bool.and_eq_true, decide_eq_true_eq] at hB
  obtain ⟨⟨⟨⟨⟨⟨⟨b1, b2⟩, b3⟩, b4⟩, b5⟩, b6⟩, b7⟩, b8⟩ := hB
  exact WpN.first hi (Region.noSelect_spec b1) hQ b4 b5 b6 b7 f listed a w (headB_inv b8) (Region.free_spec hi b2) (by simpa using b3) hy hS h
/-- One alone may come up. -/
theorem WpN.one {n i : Nat} {oi : Oper} {f : Nat} {listed : Array Bool} {a : Act} {w : World} (hi : ops[i]? = some oi) (hr : (Region.ready md ops listed == [i] && Region.wanted oi (yielded ops a.tmps)) = true)
    (h : ∀ K : Act → World → Prop, Hid (∀ a' w', ((i < n → S w') ∧ WpN P md ops Q S n f (listed.setIfInBounds i true) a' w') → K a' w') → Oper.wp P oi a w K Q) : WpN P md ops Q S n (f + 1) listed a w := by
  simp only [Bool.and_eq_true, beq_iff_eq] at hr
  obtain ⟨hr, hw⟩ := hr
  refine ⟨fun h0 => (by rw [h0] at hr; cases hr), fun j hj => ?_⟩
  rw [hr] at hj
  obtain rfl : j = i := by simpa using hj
  unfold wpOp
  simp only [hi, hw, if_true]
  exact .inl (h _ (Lib.hid fun _ _ h => h))
theorem WpN.done {n : Nat} {listed : Array Bool} {a : Act} {w : World} (hr : Region.ready md ops listed = []) (h : Q .normal a w) : ∀ f, WpN P md ops Q S n f listed a w
  | 0 => ⟨hr, h⟩
  | _ + 1 => ⟨fun _ => h, by rw [hr]; simp⟩
theorem WpN.begin {id : Nat} {a : Act} {w : World} (n : Nat) (hm : P.follows .mixedOrders = true) (h : WpN P .any ops Q S n ops.size (Array.replicate ops.size false) a w.drew) : (Code.region id ops true).wp P Q a w :=
  wp_region_any hm (h.any _ _ _ _)
end
end Go.Proofs.Ytdpibehpmghghaa
/- A region that draws its order and keeps a condition, step by step: one operation alone may come up; the way a guard that is false goes. -/
namespace Go.Proofs.Ytdpibehpmghghaa
open Go Go.RowKit

section
variable {P : Program} {ops : Array Oper} {Q : Exit → Act → World → Prop} {md : Region.Mode} {S : World → Prop}
theorem anyH_take {i : Nat} {oi : Oper} {v : Value} {f : Nat} {listed : Array Bool} {a : Act} {w : World} {d : Nat} (hi : ops[i]? = some oi) (hd : oi.dst = some d)
    (hB : (Region.noSelect ops && Region.free md ops listed i && (Region.ready md ops listed).contains i) = true)
    (hQ : ∀ c a w, Q (.panic c) (a.put (some d) v) w → Q (.panic c) a w) (hy : YieldsIf P ops S oi v a) (hS : S w)
    (h : wpAnyH P md ops Q S f (listed.setIfInBounds i true) (a.put (some d) v) w) : wpAnyH P md ops Q S (f + 1) listed a w := by
  simp only [Bool.and_eq_true] at hB
  obtain ⟨⟨b1, b2⟩, b3⟩ := hB
  rw [← hd] at hQ h
  exact wpAnyH_take hi b1 b2 b3 hQ hy hS h
/-- As WpN.take, the slot given outright. -/
theorem WpN.takeD {n i : Nat} {oi : Oper} {v : Value} {f : Nat} {listed : Array Bool} {a : Act} {w : World} {d : Nat} (hi : ops[i]? = some oi) (hd : oi.dst = some d)
    (hB : (Region.noSelect ops && Region.free md ops listed i && (Region.ready md ops listed).contains i && Region.sinkB md ops n && Region.chainB md ops n && decide (n < ops.size) && decide (i < n) && headB md ops n listed) = true)
    (hQ : ∀ c a w, Q (.panic c) (a.put (some d) v) w → Q (.panic c) a w) (hy : YieldsIf P ops S oi v a) (hS : S w)
    (h : WpN P md ops Q S n f (listed.setIfInBounds i true) (a.put (some d) v) w) : WpN P md ops Q S n (f + 1) listed a w := by
  rw [← hd] at hQ h
  exact WpN.take hi hB hQ hy hS h
/-- One alone may come up. -/
theorem anyH_one {i : Nat} {oi : Oper} {f : Nat} {listed : Array Bool} {a : Act} {w : World} (hi : ops[i]? = some oi) (hr : (Region.ready md ops listed == [i] && Region.wanted oi (yielded ops a.tmps)) = true)
    (h : ∀ K : Act → World → Prop, Hid (∀ a' w', (S w' ∧ wpAnyH P md ops Q S f (listed.setIfInBounds i true) a' w') → K a' w') → Oper.wp P oi a w K Q) : wpAnyH P md ops Q S (f + 1) listed a w := by
  simp only [Bool.and_eq_true, beq_iff_eq] at hr
  obtain ⟨hr, hw⟩ := hr
  refine ⟨fun h0 => (by rw [h0] at hr; cases hr), fun j hj => ?_⟩
  rw [hr] at hj
  obtain rfl : j = i := by simpa using hj
  unfold wpOp
  simp only [hi, hw, if_true]
  exact .inl (h _ (Lib.hid fun _ _ h => h))
end
end Go.Proofs.Ytdpibehpmghghaa
/- Two operations may come up, in whichever order. -/
namespace Go.Proofs.Ytdpibehpmghghaa
open Go Go.RowKit

section
variable {P : Program} {ops : Array Oper} {Q : Exit → Act → World → Prop} {md : Region.Mode} {S : World → Prop}
theorem WpN.two {n i j : Nat} {oi oj : Oper} {f : Nat} {listed : Array Bool} {a : Act} {w : World} (hi : ops[i]? = some oi) (hj : ops[j]? = some oj)
    (hr : (Region.ready md ops listed == [i, j] && Region.wanted oi (yielded ops a.tmps) && Region.wanted oj (yielded ops a.tmps)) = true)
    (h1 : ∀ K : Act → World → Prop, Hid (∀ a' w', ((i < n → S w') ∧ WpN P md ops Q S n f (listed.setIfInBounds i true) a' w') → K a' w') → Oper.wp P oi a w K Q)
    (h2 : ∀ K : Act → World → Prop, Hid (∀ a' w', ((j < n → S w') ∧ WpN P md ops Q S n f (listed.setIfInBounds j true) a' w') → K a' w') → Oper.wp P oj a w K Q) : WpN P md ops Q S n (f + 1) listed a w := by
  simp only [Bool.and_eq_true, beq_iff_eq] at hr
  obtain ⟨⟨hr, hwi⟩, hwj⟩ := hr
  refine ⟨fun h0 => (by rw [h0] at hr; cases hr), fun k hk => ?_⟩
  rw [hr] at hk
  have hk : k = i ∨ k = j := by simpa using hk
  unfold wpOp
  rcases hk with rfl | rfl
  · simp only [hi, hwi, if_true]
    exact .inl (h1 _ (Lib.hid fun _ _ h => h))
  · simp only [hj, hwj, if_true]
    exact .inl (h2 _ (Lib.hid fun _ _ h => h))
end
/-- One own list is put behind another one. -/
theorem wp_append_two {P : Program} {o : Oper} {a : Act} {K : Act → World → Prop} {Q : Exit → Act → World → Prop} {w : World} {α : Type} {enc : α → List Value} (s x : Operand) (t : TypeId)
    (ho : o.op = .call { callee := .builtin .append, args := #[s, x], argTypes := #[t, t] })
    (base base2 : Nat) (e : TypeId) (i : TypeInfo) (z : Value) (size bytes : Nat) (ht : P.underlying t = some (.slice e)) (hi : P.info? e = some i) (hz : i.zero = some z)
    (hsize : i.size = size) (hby : i.bytes = bytes) (hzs : z.cells.size = size) (hsz : 0 < size)
    (v v2 : Value) (l l2 : List α) (hs : a.eval s = v) (hx : a.eval x = v2) (hown : Own enc size w base e v l) (hown2 : Own enc size w base2 e v2 l2) (h1 : ∀ u ∈ l2.flatMap enc, u.oneCell' = true)
    (h63 : l.length + l2.length ≤ 1000000) (hby2 : bytes ≤ 1000) (hbase : base ≤ w.heap.size)
    (h : ∀ v' w', Own enc size w' base e v' (l ++ l2) → Below base w w' → K (a.put o.dst v') w') : Oper.wp P o a w K Q := by
  have hb2 : (l.length + l2.length) * bytes ≤ 140737488355328 := Nat.le_trans (Nat.mul_le_mul h63 hby2) (by decide)
  rcases hown2.2 with ⟨hv2, h0⟩ | ⟨g, cap, cur, hv2, _⟩
  · have e2 : l2 = [] := List.eq_nil_of_length_eq_zero h0
    obtain ⟨A, c, rfl⟩ := hown.form
    have hr := run_append_nothing (P := P) w t e o.type i ht hi A l.length c 0 hown.room.1
    unfold Oper.wp execOp
    simp only [ho, resolve, invoke, builtin, Sem.run_bind, Sem.run_pure, Result.andThen_ok, List.map_toArray, List.map_cons, List.map_nil, hs, hx, hv2, hr]
    exact h _ _ (by rw [e2, List.append_nil]; exact hown) (Below.refl _ _)
  · have hnews : ∀ j u, (l2.flatMap enc)[j]? = some u → w.cell? ((⟨g, 0, none⟩ : Addr).add j) = some u := by
      have h3 := hown2
      rw [hv2] at h3
      exact World.ownsRow.cells h3 (g := g) rfl
    obtain ⟨v', w', hr, k2, k3, _, _⟩ := run_append_own_at (P := P) w base t o.type e i z size bytes ht hi hz hsize hby hzs hsz v l.length (l.flatMap enc) hown ⟨g, 0, none⟩ l2.length cap (l2.flatMap enc) hown2.1 hnews h1 (by unfold maxLen; omega) hb2 hbase
    unfold Oper.wp execOp
    simp only [ho, resolve, invoke, builtin, Sem.run_bind, Sem.run_pure, Result.andThen_ok, List.map_toArray, List.map_cons, List.map_nil, hs, hx, hv2, hr]
    refine h _ _ ?_ ((Below.refl base w).grown k3 hbase fun k hk => (World.ownsRow.lt hown k hk).1)
    unfold Own
    rw [List.flatMap_append, List.length_append]
    exact k2
end Go.Proofs.Ytdpibehpmghghaa
/- The walk of slices.DeleteFunc over intervals. -/
namespace Go.Proofs.Ytdpibehpmghghaa
open Go.RowKit Go.Shelf

theorem Own.keepBelow {α : Type} {enc : α → List Value} {sz : Nat} {w w' : World} {base : Nat} {e : TypeId} {v : Value} {l : List α} (h : Own enc sz w base e v l) (hb : Below w.heap.size w w') : Own enc sz w' base e v l := h.ext hb
theorem zeroIvl (w : World) : (zeroValue 29).run Try.prog w = .ok (.agg #[.int .i64 0, .int .i64 0]) w := Try.zeroValue29 w

set_option maxRecDepth 100000 in
set_option maxHeartbeats 4000000 in
theorem ivlDelete_any (fn : Nat) (lb : Array Value) (p : IvlD → Bool) (eg : ∀ args w, (callFunc fn args).run Try.prog w = .ok (.enter fn args) w) (v : Value) (l : List IvlD) (w : World) (base : Nat) (hown : Own ivlC 2 w base 29 v l) (hbase : base ≤ w.heap.size)
    (hi64 : ∀ x, x ∈ l → I64 x.f ∧ I64 x.t) (hl : l.length ≤ 100000) (hp : ∀ (W : World) (x : IvlD), Calls Try.prog fn (#[ivlV x] ++ lb) W fun e w' => e = .returned (.bool (p x)) ∧ Below W.heap.size W w') :
    Calls Try.prog 54 #[v, .func (.func fn) #[] lb] w (OwnOut (l.filter fun x => !p x) w base) := by
  obtain ⟨A, c, rfl, hI⟩ := own_ivls hown hi64
  have HO := Lib.hid hown
  have HP := Lib.hid hp
  have hIF := indexFunc_any fn lb p eg A c l w hI fun W x _ => hp W x
  clear hown hp hI hi64
  go_enter Try.func54, Try.ntmps54
  go_wp2_with fail
  refine hIF.mono ?_
  rintro e w1 ⟨⟨r, rfl, hr⟩, hb1⟩
  clear hIF
  rcases hr with ⟨rfl, hall⟩ | ⟨k, x, rfl, hx, hpx, hn⟩
  · have HA := Lib.hid hall
    clear hall
    go_wp2_with fail
    go_ret
    refine ⟨_, rfl, ?_, hb1.mono hbase⟩
    rw [filter_none HA.out]
    exact HO.out.ext hb1
  · obtain ⟨b, off, hA⟩ : ∃ b off, A = some ⟨b, off, none⟩ := by
      cases A with
      | none =>
        rcases HO.out.2 with ⟨h1, h2⟩ | ⟨g, cap, cur, hv, _⟩
        · have := lt_of_get hx; omega
        · simp at hv
      | some a =>
        rcases HO.out.2 with ⟨h1, h2⟩ | ⟨g, cap, cur, hv, _⟩
        · simp at h1
        · simp only [Value.slice.injEq, Option.some.injEq] at hv
          exact ⟨g, 0, by rw [hv.1]⟩
    subst hA
    obtain rfl : off = 0 := by
      rcases HO.out.2 with ⟨h1, h2⟩ | ⟨g, cap, cur, hv, _⟩
      · simp at h1
      · simp only [Value.slice.injEq, Option.some.injEq, Addr.mk.injEq] at hv
        exact hv.1.2.1
    have hkl := lt_of_get hx
    have HD : Hid (DelInv p l l (k + 1) k) := Lib.hid (DelInv.start hx hpx hn)
    have hO1 : Own ivlC 2 w1 base 29 (.slice (some ⟨b, 0, none⟩) l.length c) l := HO.out.ext hb1
    have hB1 : Below base w w1 := hb1.mono hbase
    have hz1 := hb1.size
    have hne : ((k : Int) == -1) = false := by simp
    clear hx hpx hn hb1
    go_wp2_with fail
    go_loopw [5, 6] (fun u v wr => ∃ (i j : Nat) (m : List IvlD), u = .int .i64 i ∧ v = .int .i64 j ∧ j ≤ l.length ∧ Hid (DelInv p l m j i) ∧ Own ivlC 2 wr base 29 (.slice (some ⟨b, 0, none⟩) l.length c) m ∧ Below base w wr) (fun _ v _ => l.length - (intOf v).toNat)
    case atStart => exact ⟨k, k + 1, l, rfl, by go_num, by omega, HD, hO1, hB1⟩
    case round =>
      clear hO1 HD hB1 hne
      obtain ⟨i, j, m, rfl, rfl, hj, HD, hO, hB⟩ := hrel
      have hij := HD.out.lt
      have hml := HD.out.len
      obtain ⟨hnm, hbb, hmc, hcm, cs, hBk, hcs, hrow⟩ := hO.cells ivlC_len
      have HMC := Lib.hid hmc
      clear hnm hmc
      by_cases hlt : j < l.length
      case pos =>
        obtain ⟨x, hx⟩ := get_lt hlt
        have hmx := HD.out.rest j x (Nat.le_refl _) hx
        have x0 : wr.cell? ⟨b, j * 2, none⟩ = some (.int .i64 x.f) := by rw [hBk.cell]; have := hrow j x hmx 0 (by decide); simpa [ivlC] using this
        have x1 : wr.cell? ⟨b, j * 2 + 1, none⟩ = some (.int .i64 x.t) := by rw [hBk.cell]; have := hrow j x hmx 1 (by decide); simpa [ivlC] using this
        have hbl := hBk.lt
        obtain ⟨y, hy⟩ := get_lt (show i < m.length by omega)
        have y0 : cs[i * 2]? = some (.int .i64 y.f) := by have := hrow i y hy 0 (by decide); simpa [ivlC] using this
        have y1 : cs[i * 2 + 1]? = some (.int .i64 y.t) := by have := hrow i y hy 1 (by decide); simpa [ivlC] using this
        have hc := fun W => HP.out W x
        have HX := Lib.hid hx
        have HR := Lib.hid hrow
        have HM := Lib.hid hml
        clear hx hmx hy hrow hml
        cases hq : p x
        case true =>
          rw [hq] at hc
          go_wp2_with (go_at_fn fn; refine (hc _).mono ?_; rintro e w' ⟨rfl, hb'⟩)
          go_roundw
          case rel => exact ⟨i, j + 1, m, rfl, by go_num, by omega, Lib.hid (HD.out.skip HX.out hq), (hO.alloc _).ext hb', (hB.alloc (by have := hB.size; omega) _).trans (hb'.mono (by simp; have := hB.size; omega))⟩
          case measure => simp [intOf]; omega
        case false =>
          rw [hq] at hc
          go_wp2_with (go_at_fn fn; refine (hc _).mono ?_; rintro e w' ⟨rfl, hb'⟩; obtain ⟨q1, q2, q3⟩ := ((Blk.new wr 29 #[.int .i64 x.f, .int .i64 x.t]).ext hb').facts; obtain ⟨r0, r1, r2, r3⟩ := (show Blk w' b 29 cs ∧ (∀ i, w'.cell? ⟨b, i, none⟩ = cs[i]?) ∧ (∀ i, w'.frozen? ⟨b, i, none⟩ = false) ∧ b < w'.heap.size from ⟨(hBk.alloc _).ext hb', ((hBk.alloc _).ext hb').facts⟩))
          go_roundw
          case rel =>
            refine ⟨i + 1, j + 1, m.set i x, by go_num, by go_num, by omega, Lib.hid (HD.out.keep HX.out hq), ?_, ?_⟩
            · have h1 := (r0.set_ (i * 2) (.int .i64 x.f)).set_ (i * 2 + 1) (.int .i64 x.t)
              have h2 := Own.of_cells (enc := ivlC) (m := m.set i x) ivlC_len (by decide) h1 hbb (by rw [List.length_set]; exact HMC.out) hcm (by simpa using hcs) (HR.out.set (by rw [HM.out]; omega)
                (fun t ht => by
                  rw [Array.getElem?_setIfInBounds_ne (by omega), Array.getElem?_setIfInBounds_ne (by omega)])
                (fun t ht => by
                  have k1 : i * 2 + 1 < cs.size := (Array.getElem?_eq_some_iff.1 y1).1
                  match t, ht with
                  | 0, _ =>
                    show ((cs.setIfInBounds (i * 2) (.int .i64 x.f)).setIfInBounds (i * 2 + 1) (.int .i64 x.t))[i * 2]? = _
                    rw [Array.getElem?_setIfInBounds_ne (by omega), Array.getElem?_setIfInBounds_self_of_lt (by omega)]; rfl
                  | 1, _ => rw [Array.getElem?_setIfInBounds_self_of_lt (by simpa using k1)]; rfl))
              rwa [List.length_set, HM.out] at h2
            · have hz := hB.size
              exact (((hB.alloc (by omega) _).trans (hb'.mono (by simp; omega))).setCell hbb _).setCell hbb _
          case measure => simp [intOf]; omega
      case neg =>
        obtain rfl : j = l.length := by omega
        have hcl : ∀ ty, (Builtin.clear_ #[22] ty #[.slice (some ⟨b, i * 2, none⟩) (l.length - i) (c - i)]).run Try.prog wr = .ok (.tuple #[]) (wr.setCells b (i * 2) (Builtin.zeroCells (Value.agg #[.int .i64 0, .int .i64 0]).cells (l.length - i)).toList) := fun ty =>
          run_clear_row wr 22 29 ty (.agg #[.int .i64 0, .int .i64 0]) Try.underlying22 zeroIvl (by simp [Value.cells, Value.oneCell']) b (i * 2) _ _ (by omega)
            (fun t ht => by
              simp only [Value.cells, List.size_toArray, List.length_cons, List.length_nil] at ht
              rw [hBk.cell]
              have : i * 2 + t < cs.size := by have := HMC.out; omega
              simp [this])
            (fun t _ => hBk.frozen _)
        have HR := Lib.hid hrow
        have HM := Lib.hid hml
        have hic : i ≤ c := by have := HMC.out; omega
        have hil : i < l.length := by omega
        have hic2 : i < c := by have := HMC.out; omega
        have hic3 : ¬ c - i = 0 := by omega
        have hic4 : ¬ i = c := by omega
        have hic5 : ¬ c = i := by omega
        have hcmx : c ≤ 9223372036854775807 := hcm
        have hst := fun vs : List Value => Blk.setCells (t := 29) vs (i * 2) hBk
        obtain ⟨wz, hwz⟩ : ∃ wz, wz = wr.setCells b (i * 2) (Builtin.zeroCells (Value.agg #[.int .i64 0, .int .i64 0]).cells (l.length - i)).toList := ⟨_, rfl⟩
        have HWZ := Lib.hid hwz
        rw [← hwz] at hcl
        clear hrow hml hwz
        go_wp2_with fail
        go_ret
        obtain ⟨cs', k1, k2, k3⟩ := hst (Builtin.zeroCells (Value.agg #[.int .i64 0, .int .i64 0]).cells (l.length - i)).toList
        rw [← HWZ.out] at k1
        have hfin := HD.out.fin (Nat.le_refl _)
        have hcnt := HD.out.count (Nat.le_refl _) hij
        refine ⟨_, rfl, ?_, ?_⟩
        · have h2 := Own.of_cells (enc := ivlC) (m := m.take i) ivlC_len (by decide) k1 hbb (by rw [hfin, hcnt]; exact hic) hcm (by rw [k2]; exact hcs) (fun q x hx j hj => by
            have hq : q < i := by have := lt_of_get hx; rw [hfin, hcnt] at this; exact this
            rw [k3 _ (by omega)]
            exact HR.out.take i q x hx j hj)
          rw [hfin, hcnt] at h2
          exact h2
        · rw [HWZ.out]
          exact below_setCells hbb _ _ hB
end Go.Proofs.Ytdpibehpmghghaa
