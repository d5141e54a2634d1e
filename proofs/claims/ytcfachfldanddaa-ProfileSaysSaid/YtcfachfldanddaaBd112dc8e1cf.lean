/- Several texts in one: Told, RefMap. -/
import Derived.Test.YtcfachfldanddaaBd326a6a511a
import Derived.Test.YtcfachfldanddaaBd2bd5e1aca6
import Derived.Test.YtcfachfldanddaaBd712578e31d
/- The walk of the document's Told, for a closure that may write blocks older than the call (printed by gentold.py). -/
namespace Go.Proofs.Ytcfachfldanddaa
open Go.RowKit Go.Shelf

/-- Only blocks older than base may have changed. -/
structure Late (base : Nat) (w w' : World) : Prop where
  size : w.heap.size ≤ w'.heap.size
  block : ∀ k, base ≤ k → k < w.heap.size → w'.heap[k]? = w.heap[k]?
section
variable {base : Nat} {w w' W : World}
theorem Late.of_below (h : Below w.heap.size w w') : Late base w w' := ⟨h.size, fun k _ hk => h.block k hk⟩
theorem Late.trans (h : Late base w w') (k : Late base w' W) : Late base w W := ⟨Nat.le_trans h.size k.size, fun i h1 h2 => (k.block i h1 (Nat.lt_of_lt_of_le h2 h.size)).trans (h.block i h1 h2)⟩
theorem Late.cell (h : Late base w w') {p : Addr} {v : Value} (hb : base ≤ p.block) (hl : p.block < w.heap.size) (hc : w.cell? p = some v) : w'.cell? p = some v := (World.cell?_of_block (h.block p.block hb hl)).trans hc
theorem Own.late {α : Type} {enc : α → List Value} {sz b : Nat} {e : TypeId} {v : Value} {l : List α} (h : Own enc sz w b e v l) (hk : Late base w w') (hb : base ≤ b) : Own enc sz w' b e v l := by
  obtain ⟨h0, h1⟩ := h
  refine ⟨h0, ?_⟩
  rcases h1 with h1 | ⟨g, cap, cur, hv, hg, hh, h2⟩
  · exact .inl h1
  · exact .inr ⟨g, cap, cur, hv, hg, (hk.block g (Nat.le_trans hb hg) (Array.getElem?_eq_some_iff.1 hh).1).trans hh, h2⟩
theorem Late.add {w1 : World} (h : Late base w1 w) (hb : Below w1.heap.size w w') : Late base w1 w' := ⟨Nat.le_trans h.size hb.size, fun k h1 h2 => (hb.block k h2).trans (h.block k h1 h2)⟩
theorem Late.refl (base : Nat) (w : World) : Late base w w := ⟨Nat.le_refl _, fun _ _ _ => rfl⟩
theorem IntsAt.late {A : Option Addr} {c : Nat} {l : List Int} (h : IntsAt w A c l) (hk : Late base w w') (hA : ∀ b, A = some b → base ≤ b.block) : IntsAt w' A c l := by
  obtain ⟨x, off, hS⟩ := h.sl
  refine ⟨h.lc, h.cm, x, off, fun i y hy => ?_⟩
  obtain ⟨h1, h2, h3, h4⟩ := hS i y hy
  exact ⟨h1, Nat.lt_of_lt_of_le h2 hk.size, hk.cell (p := ⟨x, off + i * 1, none⟩) (hA ⟨x, off, none⟩ h1) h2 h3, h4⟩
end
def ToldOut (f : Int → Option Int) (l : List Int) (J : List Int → Nat → World → Prop) (w : World) (e : Ending) (w' : World) : Prop := ∃ A c out D i, Hid ((MapL out ∧ ∀ t, atM out t = f t) ∧ J D i w' ∧ D.Pairwise (· < ·) ∧ (∀ x, x ∈ D ↔ x ∈ l) ∧ D.length ≤ l.length ∧ D.length ≤ i + 1 ∧ (i < D.length ∨ i = 0) ∧ out.length ≤ i) ∧ e = .returned (.slice A out.length c) ∧ PiecesAt w' A c out ∧ w.heap.size ≤ w'.heap.size

set_option maxRecDepth 100000 in
set_option maxHeartbeats 16000000 in
theorem told_gen (fn : Nat) (lb : Array Value) (f : Int → Option Int) (eg : ∀ args w, (callFunc fn args).run Try.prog w = .ok (.enter fn args) w) (A : Option Addr) (c : Nat) (l : List Int) (w : World) (hA : IntsAt w A c l) (hl : l.length ≤ 10000)
    (hT : ∀ D : List Int, D.Pairwise (· < ·) → (∀ x, x ∈ D ↔ x ∈ l) → TurnsAt D none f) (hv : ∀ t v, f t = some v → I64 v)
    (J : List Int → Nat → World → Prop) (hJ0 : ∀ D W, Below w.heap.size w W → J D 0 W) (hJB : ∀ D i W W', J D i W → Below w.heap.size W W' → J D i W')
    (hp : ∀ (D : List Int) (i : Nat) (W : World) (x : Int), D.Pairwise (· < ·) → (∀ x, x ∈ D ↔ x ∈ l) → J D i W → D[i]? = some x → i + 1 < D.length → w.heap.size ≤ W.heap.size → Calls Try.prog fn (#[.int .i64 x] ++ lb) W fun e w' => ∃ v, e = .returned (.tuple #[.int .i64 v, .bool (f x).isSome]) ∧ (∀ y, f x = some y → v = y) ∧ J D (i + 1) w' ∧ Late w.heap.size W w') :
    Calls Try.prog 83 #[.slice A l.length c, .func (.func fn) #[] lb] w (ToldOut f l J w) := by
  obtain ⟨i0, hi, hz0, hz1, hz2⟩ := info_piece2
  have hBo := bounds_fresh A c l w hA hl
  have HI64 := Lib.hid hA.i64
  have HP := Lib.hid hp; have HT := Lib.hid hT; have HV := Lib.hid hv; have HJ0 := Lib.hid hJ0; have HJB := Lib.hid hJB
  clear hA hp hT hv hJ0 hJB
  go_enter Try.func83, Try.ntmps83
  go_wp2_with fail
  refine hBo.mono ?_
  rintro e w1 ⟨A1, c1, D, HD, hfr, rfl, hI1, hb1⟩
  have hDl : D.length ≤ 10000 := by have := HD.out.2.2; omega
  have hD9 := hI1.len
  have HTD : Hid (TurnsAt D none f) := Lib.hid (HT.out D HD.out.1 HD.out.2.1)
  have HDI : Hid (∀ k x, D[k]? = some x → I64 x) := Lib.hid fun k x hx => HI64.out x ((HD.out.2.1 x).1 (List.mem_of_getElem? hx))
  have HFR := Lib.hid hfr
  have hw1 := hb1.size
  have HJ1 := Lib.hid (HJ0.out D w1 hb1)
  have HI1 := Lib.hid hI1
  clear hBo hfr hb1 hI1
  go_wp2_with fail
  go_loopw [5, 6] (fun u v wr => ∃ (i : Nat) (out : List PieceD), v = .int .i64 i ∧ Hid (i < D.length ∨ (D = [] ∧ i = 0 ∧ out = [])) ∧ Hid (ToldK f D i out) ∧ Own pieceC 3 wr w1.heap.size 42 u out ∧ Hid (Late w.heap.size w1 wr) ∧ Hid (J D i wr)) (fun _ v _ => D.length - (intOf v).toNat)
  case atStart => exact ⟨0, [], rfl, Lib.hid (by cases D with
    | nil => exact .inr ⟨rfl, rfl, rfl⟩
    | cons y r => exact .inl (by simp)), Lib.hid ToldK.start, Own.nil, Lib.hid (Late.refl _ _), HJ1⟩
  case round =>
    clear HJ1
    obtain ⟨i, out, rfl, H0, HB, hO, HL, HJ⟩ := hrel
    have hwr := HL.out.size
    have hil : i ≤ D.length := by rcases H0.out with h | ⟨h, h2, _⟩ <;> omega
    have hol := HB.out.2.1
    by_cases hlt : i + 1 < D.length
    case neg =>
      obtain ⟨Ao, co, rfl, hIo⟩ := own_pieces hO HB.out.2.2
      have HF : Hid ((MapL out ∧ ∀ t, atM out t = f t) ∧ J D i wr ∧ D.Pairwise (· < ·) ∧ (∀ x, x ∈ D ↔ x ∈ l) ∧ D.length ≤ l.length ∧ D.length ≤ i + 1 ∧ (i < D.length ∨ i = 0) ∧ out.length ≤ i) := Lib.hid ⟨HB.out.fin HD.out.1 HTD.out (by omega) (H0.out.imp id fun h => ⟨h.1, h.2.2⟩), HJ.out, HD.out.1, HD.out.2.1, HD.out.2.2, by omega, H0.out.imp id fun h => h.2.1, hol⟩
      go_wp2_with fail
      go_ret
      exact ⟨Ao, co, out, D, i, HF, rfl, hIo, by omega⟩
    case pos =>
      obtain ⟨a, ha⟩ := get_lt (show i < D.length by omega)
      obtain ⟨d, hd⟩ := get_lt hlt
      obtain ⟨b, off, rfl, hb0, x0⟩ := HI1.out.get ha
      obtain ⟨b', off', e', _, x1⟩ := HI1.out.get hd
      obtain ⟨rfl, rfl⟩ : b = b' ∧ off = off' := by simpa using e'
      have hbo : w.heap.size ≤ b := HFR.out _ rfl
      have hia := HDI.out i a ha; have hid := HDI.out (i + 1) d hd
      have HIA := Lib.hid hia; have HID := Lib.hid hid
      have WX0 := Lib.hid x0; have WX1 := Lib.hid x1
      have x0 := HL.out.cell (p := ⟨b, off + i, none⟩) hbo hb0 WX0.out
      have HA := Lib.hid ha; have HDD := Lib.hid hd
      have hc := HP.out D i wr a HD.out.1 HD.out.2.1 HJ.out ha hlt (by omega)
      have hil' : i < D.length := by omega
      have hltz : (i : Int) + 1 < (D.length : Int) := by omega
      have hi0 : (0 : Int) ≤ (i : Int) + 1 := by omega
      have hiw : IntKind.i64.wrap ((i : Int) + 1) = (i : Int) + 1 := IntWalk.i64_in _ (by omega)
      clear ha hd e' hia hid x1
      cases hq : f a with
      | none =>
        rw [hq] at hc
        have HQ := Lib.hid hq
        simp only [Option.isSome_none] at hc
        clear hq
        go_wp2_with fail
        refine hc.mono ?_
        rintro e w' ⟨v, rfl, _, hJ2, hL2⟩
        go_wp2_with fail
        go_roundw
        case rel => exact ⟨i + 1, out, by go_num, Lib.hid (.inl hlt), Lib.hid (HB.out.skip HD.out.1 HTD.out HA.out HDD.out HQ.out), hO.late hL2 hw1, Lib.hid (HL.out.trans hL2), Lib.hid hJ2⟩
        case measure => simp [intOf]; omega
      | some y =>
        rw [hq] at hc
        have HQ := Lib.hid hq
        have HIY := Lib.hid (HV.out a y hq)
        simp only [Option.isSome_some] at hc
        clear hq
        go_wp2_with fail
        refine hc.mono ?_
        rintro e w2 ⟨v, rfl, hvy, hJ2, hL2⟩
        obtain rfl : v = y := hvy y rfl
        clear hvy
        have hO := hO.late hL2 hw1
        have HL := Lib.hid (HL.out.trans hL2)
        have hwr := HL.out.size
        have x0 := HL.out.cell (p := ⟨b, off + i, none⟩) hbo hb0 WX0.out
        have x1 := HL.out.cell (p := ⟨b, off + (i + 1), none⟩) hbo hb0 WX1.out
        have HJ2 := Lib.hid hJ2
        clear hL2 hJ2
        have hcl : out.length + 1 ≤ 1000000 := by omega
        rcases List.eq_nil_or_concat out with rfl | ⟨o, z, rfl⟩
        · have HB2 : Hid (ToldK f D (i + 1) ([] ++ [⟨a, d, v⟩])) := Lib.hid (HB.out.next HD.out.1 HTD.out HA.out HDD.out HQ.out (fun y hy => by simp at hy) HIA.out HID.out HIY.out)
          obtain ⟨Ao, co, rfl⟩ := hO.form
          go_wp2_with fail
          go_quiet (fail)
          go_wp2_with fail
          obtain ⟨wr, hwr'⟩ : ∃ wr, wr = w2.drewN nq := ⟨_, rfl⟩
          have hO : Own pieceC 3 wr w1.heap.size 42 (.slice Ao ([] : List PieceD).length co) [] := by rw [hwr']; exact hO.drewN _
          have hb : Below w1.heap.size w2 wr := by rw [hwr']; exact below_drewN (Below.refl _ _) _
          have hwr := Nat.le_trans hwr hb.size
          have S0 : wr.cell? ⟨b, off + i, none⟩ = some (.int .i64 a) ∧ wr.cell? ⟨b, off + (i + 1), none⟩ = some (.int .i64 d) := by rw [hwr']; exact ⟨x0, x1⟩
          rw [← hwr']
          clear hwr' x0 x1
          go_region_held_law (fun w' => w'.cell? ⟨b, off + i, none⟩ = some (.int .i64 a) ∧ w'.cell? ⟨b, off + (i + 1), none⟩ = some (.int .i64 d))
            (first | exact S0 | (exact keepB2 (B := w1.heap.size) (below_drew ((Below.refl _ wr).alloc hwr _)) hb0 hb0 S0) | (exact keepB2 (B := w1.heap.size) ((below_drew ((Below.refl _ wr).alloc hwr _)).trans hb8) hb0 hb0 S0))
            (first | (refine step_append_els (enc := pieceC) rfl (.tmp 67) (.tmp 79) 40 rfl w1.heap.size 42 i0 _ 3 24 Try.underlying40 hi hz0 hz1 hz2 rfl (by decide) _ [] [⟨a, d, v⟩] 1 rfl (by decide) rfl (hO.alloc _).drew #[.int .i64 a, .int .i64 d, .int .i64 v] rfl _ (Blk.new wr 42 _).drew rfl rfl three_ints hcl (by decide) (by simp; omega) ?_; intro v' w6 hown6 hb8 _))
          have hbS := hb.trans ((below_drew ((Below.refl _ wr).alloc hwr _)).trans hb8)
          go_wp2_with fail
          go_roundw
          case rel => exact ⟨i + 1, [] ++ [⟨a, d, v⟩], by go_num, Lib.hid (.inl hlt), HB2, hown6, Lib.hid (HL.out.add hbS), Lib.hid (HJB.out _ _ _ _ HJ2.out (hbS.mono hw1))⟩
          case measure => simp [intOf]; omega
        · rw [List.concat_eq_append] at HB hO hol hcl
          obtain ⟨Ao, co, rfl⟩ := hO.form
          rw [List.length_append] at hO hol hcl ⊢
          simp only [List.length_cons, List.length_nil, Nat.zero_add] at hO hol hcl ⊢
          obtain ⟨go, rfl⟩ : ∃ g, Ao = some ⟨g, 0, none⟩ := by
            rcases hO.2 with ⟨h1, _⟩ | ⟨g, cap, cur, hv, _⟩
            · simp at h1
            · simp only [Value.slice.injEq] at hv
              exact ⟨g, hv.1⟩
          obtain ⟨hnm, hgo, hmc, hcm, cs, hBk, hcs, hrow⟩ := hO.cells pieceC_len
          have hza : (o ++ [z])[o.length]? = some z := by simp
          have z0 : cs[o.length * 3]? = some (.int .i64 z.f) := by have := hrow _ z hza 0 (by decide); simpa [pieceC] using this
          have z1 : cs[o.length * 3 + 1]? = some (.int .i64 z.t) := by have := hrow _ z hza 1 (by decide); simpa [pieceC] using this
          have z2 : cs[o.length * 3 + 2]? = some (.int .i64 z.v) := by have := hrow _ z hza 2 (by decide); simpa [pieceC] using this
          have hjw : IntKind.i64.wrap (o.length : Int) = o.length := IntWalk.i64_in _ (by omega)
          have hd : (0 : Int) < (o.length : Int) + 1 := by omega
          obtain ⟨c1', c2', c3'⟩ := hBk.facts
          have hjl : o.length < o.length + 1 := by omega
          have HR := Lib.hid hrow
          have HMC := Lib.hid hmc
          clear hrow hmc hnm hza
          by_cases hz : joins z ⟨a, d, v⟩
          case pos =>
            have hd2 : (z.t == a) = true := by simpa using hz.1
            have hd3 : (z.v == v) = true := by simpa using hz.2
            have HB2 := Lib.hid (HB.out.grow HD.out.1 HTD.out HA.out HDD.out HQ.out hz HID.out)
            clear hz
            go_wp2_with fail
            go_quiet (fail)
            go_wp2_with fail
            go_roundw
            case rel =>
              have hbS : Below w1.heap.size w2 ((w2.drewN nq).setCell ⟨go, o.length * 3 + 1, none⟩ (.int .i64 d)) := (below_drewN (Below.refl _ _) _).setCell hgo _
              refine ⟨i + 1, o ++ [⟨z.f, d, z.v⟩], by go_num, Lib.hid (.inl hlt), HB2, ?_, Lib.hid (HL.out.add hbS), Lib.hid (HJB.out _ _ _ _ HJ2.out (hbS.mono hw1))⟩
              · have h2 := Own.of_cells (enc := pieceC) (m := o ++ [⟨z.f, d, z.v⟩]) pieceC_len (by decide) ((hBk.drewN nq).set_ (o.length * 3 + 1) (.int .i64 d)) hgo (by have := HMC.out; simpa using this) hcm (by simpa using hcs) (by
                  have e : (o ++ [z]).set o.length ⟨z.f, d, z.v⟩ = o ++ [⟨z.f, d, z.v⟩] := by simp
                  rw [← e]
                  refine HR.out.set (by simp) (fun t ht => by rw [Array.getElem?_setIfInBounds_ne (by omega)]) (fun t ht => ?_)
                  have k1 : o.length * 3 + 1 < cs.size := (Array.getElem?_eq_some_iff.1 z1).1
                  match t, ht with
                  | 0, _ =>
                    show (cs.setIfInBounds (o.length * 3 + 1) (.int .i64 d))[o.length * 3]? = _
                    rw [Array.getElem?_setIfInBounds_ne (by omega), z0]; rfl
                  | 1, _ => rw [Array.getElem?_setIfInBounds_self_of_lt k1]; rfl
                  | 2, _ =>
                    rw [Array.getElem?_setIfInBounds_ne (by omega), z2]; rfl)
                simpa using h2
            case measure => simp [intOf]; omega
          case neg =>
            have HB2 : Hid (ToldK f D (i + 1) (o ++ [z] ++ [⟨a, d, v⟩])) := Lib.hid (HB.out.next HD.out.1 HTD.out HA.out HDD.out HQ.out (HB.out.last HA.out hz) HIA.out HID.out HIY.out)
            by_cases ht : z.t = a
            case pos =>
              have hd2 : (z.t == a) = true := by simpa using ht
              have hd3 : (z.v == v) = false := by
                cases hc : (z.v == v)
                · rfl
                · exact absurd ⟨ht, by simpa using hc⟩ hz
              clear hz ht
              go_wp2_with fail
              go_quiet (fail)
              go_wp2_with fail
              obtain ⟨wr, hwr'⟩ : ∃ wr, wr = w2.drewN nq := ⟨_, rfl⟩
              have hO : Own pieceC 3 wr w1.heap.size 42 (.slice (some ⟨go, 0, none⟩) (o.length + 1) co) (o ++ [z]) := by rw [hwr']; exact hO.drewN _
              have hb : Below w1.heap.size w2 wr := by rw [hwr']; exact below_drewN (Below.refl _ _) _
              have hwr := Nat.le_trans hwr hb.size
              have S0 : wr.cell? ⟨b, off + i, none⟩ = some (.int .i64 a) ∧ wr.cell? ⟨b, off + (i + 1), none⟩ = some (.int .i64 d) := by rw [hwr']; exact ⟨x0, x1⟩
              rw [← hwr']
              clear hwr' x0 x1
              go_region_held_law (fun w' => w'.cell? ⟨b, off + i, none⟩ = some (.int .i64 a) ∧ w'.cell? ⟨b, off + (i + 1), none⟩ = some (.int .i64 d))
                (first | exact S0 | (exact keepB2 (B := w1.heap.size) (below_drew ((Below.refl _ wr).alloc hwr _)) hb0 hb0 S0) | (exact keepB2 (B := w1.heap.size) ((below_drew ((Below.refl _ wr).alloc hwr _)).trans hb8) hb0 hb0 S0))
                (first | (refine step_append_els (enc := pieceC) rfl (.tmp 67) (.tmp 79) 40 rfl w1.heap.size 42 i0 _ 3 24 Try.underlying40 hi hz0 hz1 hz2 rfl (by decide) _ (o ++ [z]) [⟨a, d, v⟩] 1 rfl (by decide) rfl (hO.alloc _).drew #[.int .i64 a, .int .i64 d, .int .i64 v] rfl _ (Blk.new wr 42 _).drew rfl rfl three_ints (by simp; omega) (by decide) (by simp; omega) ?_; intro v' w6 hown6 hb8 _))
              have hbS := hb.trans ((below_drew ((Below.refl _ wr).alloc hwr _)).trans hb8)
              go_wp2_with fail
              go_roundw
              case rel => exact ⟨i + 1, (o ++ [z]) ++ [⟨a, d, v⟩], by go_num, Lib.hid (.inl hlt), HB2, hown6, Lib.hid (HL.out.add hbS), Lib.hid (HJB.out _ _ _ _ HJ2.out (hbS.mono hw1))⟩
              case measure => simp [intOf]; omega
            case neg =>
              have hd2 : (z.t == a) = false := by simpa using ht
              clear hz ht
              go_wp2_with fail
              go_quiet (fail)
              go_wp2_with fail
              obtain ⟨wr, hwr'⟩ : ∃ wr, wr = w2.drewN nq := ⟨_, rfl⟩
              have hO : Own pieceC 3 wr w1.heap.size 42 (.slice (some ⟨go, 0, none⟩) (o.length + 1) co) (o ++ [z]) := by rw [hwr']; exact hO.drewN _
              have hb : Below w1.heap.size w2 wr := by rw [hwr']; exact below_drewN (Below.refl _ _) _
              have hwr := Nat.le_trans hwr hb.size
              have S0 : wr.cell? ⟨b, off + i, none⟩ = some (.int .i64 a) ∧ wr.cell? ⟨b, off + (i + 1), none⟩ = some (.int .i64 d) := by rw [hwr']; exact ⟨x0, x1⟩
              rw [← hwr']
              clear hwr' x0 x1
              go_region_held_law (fun w' => w'.cell? ⟨b, off + i, none⟩ = some (.int .i64 a) ∧ w'.cell? ⟨b, off + (i + 1), none⟩ = some (.int .i64 d))
                (first | exact S0 | (exact keepB2 (B := w1.heap.size) (below_drew ((Below.refl _ wr).alloc hwr _)) hb0 hb0 S0) | (exact keepB2 (B := w1.heap.size) ((below_drew ((Below.refl _ wr).alloc hwr _)).trans hb8) hb0 hb0 S0))
                (first | (refine step_append_els (enc := pieceC) rfl (.tmp 67) (.tmp 79) 40 rfl w1.heap.size 42 i0 _ 3 24 Try.underlying40 hi hz0 hz1 hz2 rfl (by decide) _ (o ++ [z]) [⟨a, d, v⟩] 1 rfl (by decide) rfl (hO.alloc _).drew #[.int .i64 a, .int .i64 d, .int .i64 v] rfl _ (Blk.new wr 42 _).drew rfl rfl three_ints (by simp; omega) (by decide) (by simp; omega) ?_; intro v' w6 hown6 hb8 _))
              have hbS := hb.trans ((below_drew ((Below.refl _ wr).alloc hwr _)).trans hb8)
              go_wp2_with fail
              go_roundw
              case rel => exact ⟨i + 1, (o ++ [z]) ++ [⟨a, d, v⟩], by go_num, Lib.hid (.inl hlt), HB2, hown6, Lib.hid (HL.out.add hbS), Lib.hid (HJB.out _ _ _ _ HJ2.out (hbS.mono hw1))⟩
              case measure => simp [intOf]; omega
end Go.Proofs.Ytcfachfldanddaa
/- The walks of the document's turns, small, Both and of the closures that Told is given (printed by genrefmap.py). -/
namespace Go.Proofs.Ytcfachfldanddaa
open Go.RowKit Go.Shelf

theorem keepB3 {B : Nat} {w w' : World} {p0 p1 p2 : Addr} {v0 v1 v2 : Value} (hb : Below B w w') (h0 : p0.block < B) (h1 : p1.block < B) (h2 : p2.block < B) (h : w.cell? p0 = some v0 ∧ w.cell? p1 = some v1 ∧ w.cell? p2 = some v2) : w'.cell? p0 = some v0 ∧ w'.cell? p1 = some v1 ∧ w'.cell? p2 = some v2 := ⟨cell_keepB hb h0 h.1, cell_keepB hb h1 h.2.1, cell_keepB hb h2 h.2.2⟩
def TurnsOut (l : List PieceD) (w : World) (e : Ending) (w' : World) : Prop := ∃ v, e = .returned v ∧ Own intEnc 1 w' w.heap.size 3 v (endsP l) ∧ Below w.heap.size w w'
theorem endsP_i64 {w : World} {A : Option Addr} {c : Nat} {l : List PieceD} (h : PiecesAt w A c l) : ∀ n, n ∈ endsP l → I64 n := fun n hn => by
  obtain ⟨x, hx, h1⟩ := mem_endsP.1 hn
  obtain ⟨k, hk⟩ := List.getElem?_of_mem hx
  have := h.i64 hk
  rcases h1 with rfl | rfl
  · exact this.1
  · exact this.2.1
set_option maxRecDepth 100000 in
set_option maxHeartbeats 4000000 in
theorem refTurns_any (A : Option Addr) (c : Nat) (l : List PieceD) (w : World) (hI : PiecesAt w A c l) (hl : l.length ≤ 1000) :
    Calls Try.prog 84 #[.slice A l.length c] w (TurnsOut l w) := by
  obtain ⟨i0, hi, hz0, hz1, hz2⟩ := info_int2
  have m1 := hI.len
  have HI := Lib.hid hI
  clear hI
  go_enter Try.func84, Try.ntmps84
  go_wp2_with fail
  go_loopw [3, 4] (fun u v wr => ∃ (k : Nat), k ≤ l.length ∧ v = .int .i64 k ∧ Own intEnc 1 wr w.heap.size 3 u (endsP (l.take k)) ∧ Below w.heap.size w wr) (fun _ v _ => l.length - (intOf v).toNat)
  case atStart => exact ⟨0, Nat.zero_le _, rfl, Own.nil, Below.refl _ _⟩
  case round =>
    obtain ⟨k, hk, rfl, hO, hb⟩ := hrel
    by_cases hlt : k < l.length
    case neg =>
      obtain rfl : k = l.length := by omega
      rw [List.take_length] at hO
      go_wp2_with fail
      go_ret
      exact ⟨_, rfl, hO, hb⟩
    case pos =>
      obtain ⟨x, hx⟩ := get_lt hlt
      obtain ⟨b, off, rfl, hb0, x0, x1, _⟩ := HI.out.get hx
      rw [← hb.cell (by exact hb0)] at x0 x1
      have HN : Hid (endsP (l.take (k + 1)) = endsP (l.take k) ++ [x.f, x.t]) := Lib.hid (by rw [takeM_succ hx, endsP_snoc])
      have hcl : (endsP (l.take k)).length + 2 ≤ 1000000 := by rw [endsP_len, List.length_take]; omega
      obtain ⟨acc, hacc⟩ : ∃ acc, acc = endsP (l.take k) := ⟨_, rfl⟩
      rw [← hacc] at HN hcl hO
      have hzw := hb.size
      clear hx hacc
      have S0 : wr.cell? ⟨b, off + k * 3, none⟩ = some (.int .i64 x.f) ∧ wr.cell? ⟨b, off + k * 3 + 1, none⟩ = some (.int .i64 x.t) := ⟨x0, x1⟩
      go_wp2_with fail
      go_region_held_law (fun w' => w'.cell? ⟨b, off + k * 3, none⟩ = some (.int .i64 x.f) ∧ w'.cell? ⟨b, off + k * 3 + 1, none⟩ = some (.int .i64 x.t))
        (first | exact S0 | (exact keepB2 (B := w.heap.size) (below_drew ((Below.refl _ wr).alloc hzw _)) hb0 hb0 S0) | (exact keepB2 (B := w.heap.size) ((below_drew ((Below.refl _ wr).alloc hzw _)).trans hb8) hb0 hb0 S0))
        (first | (refine step_append_els (enc := intEnc) rfl (.tmp 11) (.tmp 22) 81 rfl w.heap.size 3 i0 _ 1 8 Try.underlying81 hi hz0 hz1 hz2 rfl (by decide) _ acc [x.f, x.t] 2 rfl (by decide) rfl (hO.alloc _).drew #[.int .i64 x.f, .int .i64 x.t] rfl _ (Blk.new wr 3 _).drew rfl rfl int_one2 hcl (by decide) (by simp; omega) ?_; intro v' w6 hown6 hb8 _))
      go_wp2_with fail
      go_roundw
      case rel => exact ⟨k + 1, by omega, by go_num, by rw [HN.out]; exact hown6, hb.trans ((below_drew ((Below.refl _ wr).alloc hzw _)).trans hb8)⟩
      case measure => simp [intOf]; omega
set_option maxHeartbeats 1000000 in
theorem refSmall_any (A : Option Addr) (n c : Nat) (w : World) (hn : n ≤ maxLen) : Calls Try.prog 87 #[.slice A n c] w fun e w' => e = .returned (.tuple #[if 200 < n then .slice none 0 0 else .slice A n c, .int .i64 (if 200 < n then 2 else 0)]) ∧ w = w' := by
  unfold maxLen at hn
  by_cases h : 200 < n
  · have hd : decide ((n : Int) > 200) = true := by simp; omega
    rw [if_pos h, if_pos h]
    clear h
    go_enter Try.func87, Try.ntmps87
    go_wp2_with fail
    refine bodyPost_ret (v := .tuple #[.slice none 0 0, .int .i64 2]) (by simp [results, Try.results87]) rfl ?_
    exact ⟨rfl, rfl⟩
  · have hd : decide ((n : Int) > 200) = false := by simp; omega
    rw [if_neg h, if_neg h]
    clear h
    go_enter Try.func87, Try.ntmps87
    go_wp2_with fail
    refine bodyPost_ret (v := .tuple #[.slice A n c, .int .i64 0]) (by simp [results, Try.results87]) rfl ?_
    exact ⟨rfl, rfl⟩
set_option maxHeartbeats 1000000 in
theorem refBoth_any (a b k : Int) (hk : 1 ≤ k ∧ k ≤ 3) (ha : nearB a = true) (hb : nearB b = true) (w : World) : Calls Try.prog 86 #[.int .i64 a, .int .i64 b, .int .i64 k] w fun e w' => e = .returned (.int .i64 (both3 k a b)) ∧ w = w' := by
  have h1 := near_iff.1 ha
  have h2 := near_iff.1 hb
  have hs : IntKind.i64.wrap (a + b) = a + b := IntWalk.i64_in _ (by omega)
  have hk3 : k = 1 ∨ k = 2 ∨ k = 3 := by omega
  clear ha hb hk
  have HR1 : both3 1 a b = if a < b then a else b := by unfold both3; rw [if_neg (by decide), if_pos rfl]; omega
  have HR2 : both3 2 a b = if a < b then b else a := by unfold both3; rw [if_neg (by decide), if_neg (by decide)]; omega
  have HR3 : both3 3 a b = a + b := by unfold both3; rw [if_pos rfl]
  have K1 := Lib.hid HR1; have K2 := Lib.hid HR2; have K3 := Lib.hid HR3
  clear HR1 HR2 HR3 h1 h2
  rcases hk3 with rfl | rfl | rfl
  · by_cases hab : a < b
    · have HK : Hid (a = both3 1 a b) := Lib.hid (by rw [K1.out, if_pos hab])
      go_enter Try.func86, Try.ntmps86
      go_wp2_with fail
      go_ret
      exact ⟨ret_int HK.out, rfl⟩
    · have HK : Hid (b = both3 1 a b) := Lib.hid (by rw [K1.out, if_neg hab])
      have hd : decide (a < b) = false := by simpa using hab
      clear hab
      go_enter Try.func86, Try.ntmps86
      go_wp2_with fail
      go_ret
      exact ⟨ret_int HK.out, rfl⟩
  · by_cases hab : a < b
    · have HK : Hid (b = both3 2 a b) := Lib.hid (by rw [K2.out, if_pos hab])
      go_enter Try.func86, Try.ntmps86
      go_wp2_with fail
      go_ret
      exact ⟨ret_int HK.out, rfl⟩
    · have HK : Hid (a = both3 2 a b) := Lib.hid (by rw [K2.out, if_neg hab])
      have hd : decide (a < b) = false := by simpa using hab
      clear hab
      go_enter Try.func86, Try.ntmps86
      go_wp2_with fail
      go_ret
      exact ⟨ret_int HK.out, rfl⟩
  · go_enter Try.func86, Try.ntmps86
    go_wp2_with fail
    go_ret
    exact ⟨ret_int K3.out.symm, rfl⟩
/-- What a closure tells, as Told wants it. -/
def CloOut (o : Option Int) (W : World) (e : Ending) (w' : World) : Prop := ∃ v, e = .returned (.tuple #[.int .i64 v, .bool o.isSome]) ∧ (∀ y, o = some y → v = y) ∧ Below W.heap.size W w'
theorem CloOut.of_at {o : Option Int} {W w' : World} {e : Ending} (h : e = .returned (atV o) ∧ Below W.heap.size W w') : CloOut o W e w' := ⟨o.getD 0, h.1, fun y hy => by rw [hy]; rfl, h.2⟩
theorem enters_refPut1 : Enters Try.prog 88 := enters_of Try.func88 (by kernel_rfl) rfl
theorem enters_refOnly1 : Enters Try.prog 90 := enters_of Try.func90 (by kernel_rfl) rfl
theorem enters_refMerge1 : Enters Try.prog 85 := enters_of Try.func85 (by kernel_rfl) rfl
set_option maxHeartbeats 2000000 in
theorem refPut1_any (A : Option Addr) (c bp bm : Nat) (m : List PieceD) (p : PieceD) (t : Int) (W : World) (hp : Blk W bp 42 #[.int .i64 p.f, .int .i64 p.t, .int .i64 p.v]) (hm : W.cell? ⟨bm, 0, none⟩ = some (.slice A m.length c)) (hA : PiecesAt W A c m) :
    Calls Try.prog 88 #[.int .i64 t, .pointer (some ⟨bp, 0, none⟩), .pointer (some ⟨bm, 0, none⟩)] W (CloOut (putM m p t) W) := by
  obtain ⟨p1, p2, p3⟩ := hp.facts
  have hc1 := refAt_any A c m t W hA
  by_cases h : p.f ≤ t ∧ t < p.t
  · have HR : Hid (putM m p t = some p.v) := Lib.hid (by unfold putM; rw [if_pos h])
    have hd1 : decide (p.f ≤ t) = true := by simpa using h.1
    have hd2 : decide (t < p.t) = true := by simpa using h.2
    clear h hc1 hA hp
    go_enter Try.func88, Try.ntmps88
    go_wp2_with fail
    refine bodyPost_ret (v := .tuple #[.int .i64 p.v, .bool true]) (by simp [results, Try.results88]) rfl ?_
    exact ⟨p.v, by rw [HR.out]; rfl, fun y hy => by rw [HR.out] at hy; simpa using hy, Below.refl _ _⟩
  · have HR : Hid (putM m p t = atM m t) := Lib.hid (by unfold putM; rw [if_neg h])
    by_cases h1 : p.f ≤ t
    · have hd1 : decide (p.f ≤ t) = true := by simpa using h1
      have hd2 : decide (t < p.t) = false := by simp; omega
      clear h h1 hA hp
      go_enter Try.func88, Try.ntmps88
      go_wp2_with fail
      refine hc1.mono ?_
      rintro e w1 ⟨rfl, rfl⟩
      unfold atV
      go_wp2_with fail
      refine bodyPost_ret (v := .tuple #[.int .i64 ((atM m t).getD 0), .bool (atM m t).isSome]) (by simp [results, Try.results88]) rfl ?_
      rw [HR.out]
      exact CloOut.of_at ⟨rfl, Below.refl _ _⟩
    · have hd1 : decide (p.f ≤ t) = false := by simpa using h1
      clear h h1 hA hp
      go_enter Try.func88, Try.ntmps88
      go_wp2_with fail
      refine hc1.mono ?_
      rintro e w1 ⟨rfl, rfl⟩
      unfold atV
      go_wp2_with fail
      refine bodyPost_ret (v := .tuple #[.int .i64 ((atM m t).getD 0), .bool (atM m t).isSome]) (by simp [results, Try.results88]) rfl ?_
      rw [HR.out]
      exact CloOut.of_at ⟨rfl, Below.refl _ _⟩
theorem refHas_q (A : Option Addr) (c : Nat) (l : List IvlD) (t : Int) (b : Bool) (hb : hasB l t = b) (W : World) (hI : IvlsAt W A c l) (n : Nat) :
    Calls Try.prog 27 #[.slice A l.length c, .int .i64 t] (W.drewN n) fun e w' => e = .returned (.bool b) ∧ ∃ m, w' = W.drewN m :=
  (refHas_any A c l t _ (hI.ext (below_drewN (Below.refl _ _) n))).mono fun _ _ ⟨h1, h2⟩ => ⟨by rw [h1, hb], n, h2.symm⟩
set_option maxHeartbeats 4000000 in
theorem refOnly1_any (A B : Option Addr) (c d ba bb bh : Nat) (m : List PieceD) (l : List IvlD) (yes : Bool) (t : Int) (W : World) (hca : W.cell? ⟨ba, 0, none⟩ = some (.slice A m.length c)) (hcb : W.cell? ⟨bb, 0, none⟩ = some (.slice B l.length d))
    (hch : W.cell? ⟨bh, 0, none⟩ = some (.bool yes)) (hA : PiecesAt W A c m) (hB : IvlsAt W B d l) :
    Calls Try.prog 90 #[.int .i64 t, .pointer (some ⟨ba, 0, none⟩), .pointer (some ⟨bb, 0, none⟩), .pointer (some ⟨bh, 0, none⟩)] W (CloOut (onlyF m l yes t) W) := by
  have hc1 := refAt_any A c m t W hA
  obtain ⟨q, hq⟩ : ∃ q, hasB l t = q := ⟨_, rfl⟩
  have hc2 := refHas_q B d l t q hq W hB
  have HO : Hid (onlyF m l yes t = if q = yes then atM m t else none) := Lib.hid (by unfold onlyF; rw [hq])
  clear hA hB hq
  cases ha : atM m t with
  | none =>
    have HR : Hid (onlyF m l yes t = none) := Lib.hid (by rw [HO.out, ha]; split <;> rfl)
    rw [ha] at hc1
    unfold atV at hc1
    simp only [Option.getD_none, Option.isSome_none] at hc1
    clear ha HO hc2
    go_enter Try.func90, Try.ntmps90
    go_wp2_with fail
    refine hc1.mono ?_
    rintro e w1 ⟨rfl, rfl⟩
    go_wp2_with fail
    go_quiet (fail)
    go_wp2_with fail
    refine bodyPost_ret (v := .tuple #[.int .i64 0, .bool false]) (by simp [results, Try.results90]) rfl ?_
    exact ⟨0, by rw [HR.out]; rfl, fun y hy => by rw [HR.out] at hy; simp at hy, below_drewN (Below.refl _ _) _⟩
  | some y =>
    have HR : Hid (onlyF m l yes t = if q = yes then some y else none) := Lib.hid (by rw [HO.out, ha])
    rw [ha] at hc1
    unfold atV at hc1
    simp only [Option.getD_some, Option.isSome_some] at hc1
    clear ha HO
    cases q <;> cases yes
    all_goals
      go_enter Try.func90, Try.ntmps90
      go_wp2_with fail
      refine hc1.mono ?_
      rintro e w1 ⟨rfl, rfl⟩
      go_wp2_with fail
      go_quiet (first | (go_at_call 27; exact hc2 _))
      go_wp2_with fail
      first
      | (refine bodyPost_ret (v := .tuple #[.int .i64 y, .bool true]) (by simp [results, Try.results90]) rfl ?_
         exact ⟨y, by rw [HR.out]; rfl, fun z hz => by rw [HR.out] at hz; simpa using hz, below_drewN (Below.refl _ _) _⟩)
      | (refine bodyPost_ret (v := .tuple #[.int .i64 y, .bool false]) (by simp [results, Try.results90]) rfl ?_
         exact ⟨y, by rw [HR.out]; rfl, fun z hz => by rw [HR.out] at hz; simp at hz, below_drewN (Below.refl _ _) _⟩)
set_option maxHeartbeats 4000000 in
theorem refMerge1_any (A B : Option Addr) (c d ba bb bh : Nat) (a b : List PieceD) (k t : Int) (W : World) (hk : 1 ≤ k ∧ k ≤ 3) (hca : W.cell? ⟨ba, 0, none⟩ = some (.slice A a.length c)) (hcb : W.cell? ⟨bb, 0, none⟩ = some (.slice B b.length d))
    (hch : W.cell? ⟨bh, 0, none⟩ = some (.int .i64 k)) (hA : PiecesAt W A c a) (hB : PiecesAt W B d b) (hna : mapErr a = 0) (hnb : mapErr b = 0) :
    Calls Try.prog 85 #[.int .i64 t, .pointer (some ⟨ba, 0, none⟩), .pointer (some ⟨bb, 0, none⟩), .pointer (some ⟨bh, 0, none⟩)] W (CloOut (mergeF k a b t) W) := by
  have hc1 := refAt_any A c a t W hA
  have hc2 := refAt_any B d b t W hB
  have HNA := Lib.hid (mapErr_zero hna); have HNB := Lib.hid (mapErr_zero hnb)
  have HK := Lib.hid hk
  clear hA hB hna hnb hk
  obtain ⟨p, hp⟩ : ∃ p, atM a t = p := ⟨_, rfl⟩
  obtain ⟨q, hq⟩ : ∃ q, atM b t = q := ⟨_, rfl⟩
  have HM : Hid (mergeF k a b t = bothO k p q) := Lib.hid (by unfold mergeF; rw [hp, hq])
  have HVA : Hid (∀ x, p = some x → nearB x = true) := Lib.hid fun x hx => HNA.out.2.vals (hp.trans hx)
  have HVB : Hid (∀ x, q = some x → nearB x = true) := Lib.hid fun x hx => HNB.out.2.vals (hq.trans hx)
  rw [hp] at hc1
  rw [hq] at hc2
  rw [HM.out]
  unfold atV at hc1 hc2
  clear hp hq HM HNA HNB
  cases p with
  | none =>
    cases q with
    | none =>
      simp only [Option.getD_none, Option.isSome_none] at hc1 hc2
      go_enter Try.func85, Try.ntmps85
      go_wp2_with fail
      refine hc1.mono ?_
      rintro e w1 ⟨rfl, rfl⟩
      go_wp2_with fail
      refine hc2.mono ?_
      rintro e w1 ⟨rfl, rfl⟩
      go_wp2_with fail
      refine bodyPost_ret (v := .tuple #[.int .i64 0, .bool false]) (by simp [results, Try.results85]) rfl ?_
      exact ⟨0, rfl, fun y hy => by simp [bothO] at hy, Below.refl _ _⟩
    | some y =>
      have hy := near_iff.1 (HVB.out y rfl)
      have hs : IntKind.i64.wrap (0 + y) = y := by rw [Int.zero_add]; exact IntWalk.i64_in _ (by omega)
      have hs2 : IntKind.i64.wrap y = y := IntWalk.i64_in _ (by omega)
      simp only [Option.getD_none, Option.isSome_none, Option.getD_some, Option.isSome_some] at hc1 hc2
      clear hy
      go_enter Try.func85, Try.ntmps85
      go_wp2_with fail
      refine hc1.mono ?_
      rintro e w1 ⟨rfl, rfl⟩
      go_wp2_with fail
      refine hc2.mono ?_
      rintro e w1 ⟨rfl, rfl⟩
      go_wp2_with fail
      refine bodyPost_ret (v := .tuple #[.int .i64 y, .bool true]) (by simp [results, Try.results85]) rfl ?_
      exact ⟨y, rfl, fun z hz => by simpa [bothO] using hz, Below.refl _ _⟩
  | some x =>
    cases q with
    | none =>
      have hx := near_iff.1 (HVA.out x rfl)
      have hs : IntKind.i64.wrap (x + 0) = x := by rw [Int.add_zero]; exact IntWalk.i64_in _ (by omega)
      have hs2 : IntKind.i64.wrap x = x := IntWalk.i64_in _ (by omega)
      simp only [Option.getD_none, Option.isSome_none, Option.getD_some, Option.isSome_some] at hc1 hc2
      clear hx
      go_enter Try.func85, Try.ntmps85
      go_wp2_with fail
      refine hc1.mono ?_
      rintro e w1 ⟨rfl, rfl⟩
      go_wp2_with fail
      refine hc2.mono ?_
      rintro e w1 ⟨rfl, rfl⟩
      go_wp2_with fail
      refine bodyPost_ret (v := .tuple #[.int .i64 x, .bool true]) (by simp [results, Try.results85]) rfl ?_
      exact ⟨x, rfl, fun z hz => by simpa [bothO] using hz, Below.refl _ _⟩
    | some y =>
      simp only [Option.getD_some, Option.isSome_some] at hc1 hc2
      have hc3 := refBoth_any x y k HK.out (HVA.out x rfl) (HVB.out y rfl)
      go_enter Try.func85, Try.ntmps85
      go_wp2_with fail
      refine hc1.mono ?_
      rintro e w1 ⟨rfl, rfl⟩
      go_wp2_with fail
      refine hc2.mono ?_
      rintro e w1 ⟨rfl, rfl⟩
      go_wp2_with fail
      refine (hc3 _).mono ?_
      rintro e w1 ⟨rfl, rfl⟩
      go_wp2_with fail
      refine bodyPost_ret (v := .tuple #[.int .i64 (both3 k x y), .bool true]) (by simp [results, Try.results85]) rfl ?_
      exact ⟨_, rfl, fun z hz => by simpa [bothO] using hz, Below.refl _ _⟩
end Go.Proofs.Ytcfachfldanddaa
