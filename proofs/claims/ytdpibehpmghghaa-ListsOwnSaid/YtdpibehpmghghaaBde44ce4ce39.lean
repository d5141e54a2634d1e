/- One text: IvlDelW. -/
import Derived.Test.YtdpibehpmghghaaBdbf1197d85f
/- The walk of slices.DeleteFunc over intervals. -/
namespace Go.Proofs.Ytdpibehpmghghaa
open Go.RowKit Go.Shelf

theorem Own.keepBelow {α : Type} {enc : α → List Value} {sz : Nat} {w w' : World} {base : Nat} {e : TypeId} {v : Value} {l : List α} (h : Own enc sz w base e v l) (hb : Below w.heap.size w w') : Own enc sz w' base e v l := h.ext hb
theorem zeroIvl (w : World) : (zeroValue 29).run Try.prog w = .ok (.agg #[.int .i64 0, .int .i64 0]) w := Try.zeroValue29 w

set_option maxRecDepth 100000 in
set_option maxHeartbeats 4000000 in
theorem ivlDelete_any (fn : Nat) (lb : Array Value) (p : IvlD → Bool) (eg : ∀ args w, (callFunc fn args).run Try.prog w = .ok (.enter fn args) w) (v : Value) (l : List IvlD) (w : World) (base : Nat) (hown : Own ivlC 2 w base 29 v l) (hbase : base ≤ w.heap.size)
    (hi64 : ∀ x, x ∈ l → I64 x.f ∧ I64 x.t) (hl : l.length ≤ 100000) (hp : ∀ (W : World) (x : IvlD), Calls Try.prog fn (#[ivlV x] ++ lb) W fun e w' => e = .returned (.bool (p x)) ∧ Below W.heap.size W w') :
    Calls Try.prog 54 #[v, .func (.func fn) #[] lb] w (OwnOut (l.filter fun x => !p x) w base) := by
  obtain ⟨A, c, rfl, hI⟩ := own_ivls hown hi64
  have HO := Lib.hid hown
  have HP := Lib.hid hp
  have hIF := indexFunc_any fn lb p eg A c l w hI fun W x _ => hp W x
  clear hown hp hI hi64
  go_enter Try.func54, Try.ntmps54
  go_wp2_with fail
  refine hIF.mono ?_
  rintro e w1 ⟨⟨r, rfl, hr⟩, hb1⟩
  clear hIF
  rcases hr with ⟨rfl, hall⟩ | ⟨k, x, rfl, hx, hpx, hn⟩
  · have HA := Lib.hid hall
    clear hall
    go_wp2_with fail
    go_ret
    refine ⟨_, rfl, ?_, hb1.mono hbase⟩
    rw [filter_none HA.out]
    exact HO.out.ext hb1
  · obtain ⟨b, off, hA⟩ : ∃ b off, A = some ⟨b, off, none⟩ := by
      cases A with
      | none =>
        rcases HO.out.2 with ⟨h1, h2⟩ | ⟨g, cap, cur, hv, _⟩
        · have := lt_of_get hx; omega
        · simp at hv
      | some a =>
        rcases HO.out.2 with ⟨h1, h2⟩ | ⟨g, cap, cur, hv, _⟩
        · simp at h1
        · simp only [Value.slice.injEq, Option.some.injEq] at hv
          exact ⟨g, 0, by rw [hv.1]⟩
    subst hA
    obtain rfl : off = 0 := by
      rcases HO.out.2 with ⟨h1, h2⟩ | ⟨g, cap, cur, hv, _⟩
      · simp at h1
      · simp only [Value.slice.injEq, Option.some.injEq, Addr.mk.injEq] at hv
        exact hv.1.2.1
    have hkl := lt_of_get hx
    have HD : Hid (DelInv p l l (k + 1) k) := Lib.hid (DelInv.start hx hpx hn)
    have hO1 : Own ivlC 2 w1 base 29 (.slice (some ⟨b, 0, none⟩) l.length c) l := HO.out.ext hb1
    have hB1 : Below base w w1 := hb1.mono hbase
    have hz1 := hb1.size
    have hne : ((k : Int) == -1) = false := by simp
    clear hx hpx hn hb1
    go_wp2_with fail
    go_loopw [5, 6] (fun u v wr => ∃ (i j : Nat) (m : List IvlD), u = .int .i64 i ∧ v = .int .i64 j ∧ j ≤ l.length ∧ Hid (DelInv p l m j i) ∧ Own ivlC 2 wr base 29 (.slice (some ⟨b, 0, none⟩) l.length c) m ∧ Below base w wr) (fun _ v _ => l.length - (intOf v).toNat)
    case atStart => exact ⟨k, k + 1, l, rfl, by go_num, by omega, HD, hO1, hB1⟩
    case round =>
      clear hO1 HD hB1 hne
      obtain ⟨i, j, m, rfl, rfl, hj, HD, hO, hB⟩ := hrel
      have hij := HD.out.lt
      have hml := HD.out.len
      obtain ⟨hnm, hbb, hmc, hcm, cs, hBk, hcs, hrow⟩ := hO.cells ivlC_len
      have HMC := Lib.hid hmc
      clear hnm hmc
      by_cases hlt : j < l.length
      case pos =>
        obtain ⟨x, hx⟩ := get_lt hlt
        have hmx := HD.out.rest j x (Nat.le_refl _) hx
        have x0 : wr.cell? ⟨b, j * 2, none⟩ = some (.int .i64 x.f) := by rw [hBk.cell]; have := hrow j x hmx 0 (by decide); simpa [ivlC] using this
        have x1 : wr.cell? ⟨b, j * 2 + 1, none⟩ = some (.int .i64 x.t) := by rw [hBk.cell]; have := hrow j x hmx 1 (by decide); simpa [ivlC] using this
        have hbl := hBk.lt
        obtain ⟨y, hy⟩ := get_lt (show i < m.length by omega)
        have y0 : cs[i * 2]? = some (.int .i64 y.f) := by have := hrow i y hy 0 (by decide); simpa [ivlC] using this
        have y1 : cs[i * 2 + 1]? = some (.int .i64 y.t) := by have := hrow i y hy 1 (by decide); simpa [ivlC] using this
        have hc := fun W => HP.out W x
        have HX := Lib.hid hx
        have HR := Lib.hid hrow
        have HM := Lib.hid hml
        clear hx hmx hy hrow hml
        cases hq : p x
        case true =>
          rw [hq] at hc
          go_wp2_with (go_at_fn fn; refine (hc _).mono ?_; rintro e w' ⟨rfl, hb'⟩)
          go_roundw
          case rel => exact ⟨i, j + 1, m, rfl, by go_num, by omega, Lib.hid (HD.out.skip HX.out hq), (hO.alloc _).ext hb', (hB.alloc (by have := hB.size; omega) _).trans (hb'.mono (by simp; have := hB.size; omega))⟩
          case measure => simp [intOf]; omega
        case false =>
          rw [hq] at hc
          go_wp2_with (go_at_fn fn; refine (hc _).mono ?_; rintro e w' ⟨rfl, hb'⟩; obtain ⟨q1, q2, q3⟩ := ((Blk.new wr 29 #[.int .i64 x.f, .int .i64 x.t]).ext hb').facts; obtain ⟨r0, r1, r2, r3⟩ := (show Blk w' b 29 cs ∧ (∀ i, w'.cell? ⟨b, i, none⟩ = cs[i]?) ∧ (∀ i, w'.frozen? ⟨b, i, none⟩ = false) ∧ b < w'.heap.size from ⟨(hBk.alloc _).ext hb', ((hBk.alloc _).ext hb').facts⟩))
          go_roundw
          case rel =>
            refine ⟨i + 1, j + 1, m.set i x, by go_num, by go_num, by omega, Lib.hid (HD.out.keep HX.out hq), ?_, ?_⟩
            · have h1 := (r0.set_ (i * 2) (.int .i64 x.f)).set_ (i * 2 + 1) (.int .i64 x.t)
              have h2 := Own.of_cells (enc := ivlC) (m := m.set i x) ivlC_len (by decide) h1 hbb (by rw [List.length_set]; exact HMC.out) hcm (by simpa using hcs) (HR.out.set (by rw [HM.out]; omega)
                (fun t ht => by
                  rw [Array.getElem?_setIfInBounds_ne (by omega), Array.getElem?_setIfInBounds_ne (by omega)])
                (fun t ht => by
                  have k1 : i * 2 + 1 < cs.size := (Array.getElem?_eq_some_iff.1 y1).1
                  match t, ht with
                  | 0, _ =>
                    show ((cs.setIfInBounds (i * 2) (.int .i64 x.f)).setIfInBounds (i * 2 + 1) (.int .i64 x.t))[i * 2]? = _
                    rw [Array.getElem?_setIfInBounds_ne (by omega), Array.getElem?_setIfInBounds_self_of_lt (by omega)]; rfl
                  | 1, _ => rw [Array.getElem?_setIfInBounds_self_of_lt (by simpa using k1)]; rfl))
              rwa [List.length_set, HM.out] at h2
            · have hz := hB.size
              exact (((hB.alloc (by omega) _).trans (hb'.mono (by simp; omega))).setCell hbb _).setCell hbb _
          case measure => simp [intOf]; omega
      case neg =>
        obtain rfl : j = l.length := by omega
        have hcl : ∀ ty, (Builtin.clear_ #[22] ty #[.slice (some ⟨b, i * 2, none⟩) (l.length - i) (c - i)]).run Try.prog wr = .ok (.tuple #[]) (wr.setCells b (i * 2) (Builtin.zeroCells (Value.agg #[.int .i64 0, .int .i64 0]).cells (l.length - i)).toList) := fun ty =>
          run_clear_row wr 22 29 ty (.agg #[.int .i64 0, .int .i64 0]) Try.underlying22 zeroIvl (by simp [Value.cells, Value.oneCell']) b (i * 2) _ _ (by omega)
            (fun t ht => by
              simp only [Value.cells, List.size_toArray, List.length_cons, List.length_nil] at ht
              rw [hBk.cell]
              have : i * 2 + t < cs.size := by have := HMC.out; omega
              simp [this])
            (fun t _ => hBk.frozen _)
        have HR := Lib.hid hrow
        have HM := Lib.hid hml
        have hic : i ≤ c := by have := HMC.out; omega
        have hil : i < l.length := by omega
        have hic2 : i < c := by have := HMC.out; omega
        have hic3 : ¬ c - i = 0 := by omega
        have hic4 : ¬ i = c := by omega
        have hic5 : ¬ c = i := by omega
        have hcmx : c ≤ 9223372036854775807 := hcm
        have hst := fun vs : List Value => Blk.setCells (t := 29) vs (i * 2) hBk
        obtain ⟨wz, hwz⟩ : ∃ wz, wz = wr.setCells b (i * 2) (Builtin.zeroCells (Value.agg #[.int .i64 0, .int .i64 0]).cells (l.length - i)).toList := ⟨_, rfl⟩
        have HWZ := Lib.hid hwz
        rw [← hwz] at hcl
        clear hrow hml hwz
        go_wp2_with fail
        go_ret
        obtain ⟨cs', k1, k2, k3⟩ := hst (Builtin.zeroCells (Value.agg #[.int .i64 0, .int .i64 0]).cells (l.length - i)).toList
        rw [← HWZ.out] at k1
        have hfin := HD.out.fin (Nat.le_refl _)
        have hcnt := HD.out.count (Nat.le_refl _) hij
        refine ⟨_, rfl, ?_, ?_⟩
        · have h2 := Own.of_cells (enc := ivlC) (m := m.take i) ivlC_len (by decide) k1 hbb (by rw [hfin, hcnt]; exact hic) hcm (by rw [k2]; exact hcs) (fun q x hx j hj => by
            have hq : q < i := by have := lt_of_get hx; rw [hfin, hcnt] at this; exact this
            rw [k3 _ (by omega)]
            exact HR.out.take i q x hx j hj)
          rw [hfin, hcnt] at h2
          exact h2
        · rw [HWZ.out]
          exact below_setCells hbb _ _ hB
end Go.Proofs.Ytdpibehpmghghaa
