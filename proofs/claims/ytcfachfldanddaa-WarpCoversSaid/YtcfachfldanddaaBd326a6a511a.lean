/- Several texts in one: Those, Ends, RefNorm, IvlLaw3. -/
import Derived.Shelf.Abstract
import Derived.Shelf.GgClosure.Gives
import Derived.BigRegion
import Derived.Test.YtcfachfldanddaaBdc67575f59d
import Derived.Test.YtcfachfldanddaaBd329d7f171a
import Derived.Test.YtcfachfldanddaaBd412ff9c6d9
import Derived.Test.YtcfachfldanddaaBd44e7910821
/- The walks of the document's ends and Those. -/
namespace Go.Proofs.Ytcfachfldanddaa
open Go.RowKit Go.Shelf

theorem ivlC_len2 (x : IvlD) : (ivlC x).length = 2 := rfl

theorem keepB2 {B : Nat} {w w' : World} {p0 p1 : Addr} {v0 v1 : Value} (hb : Below B w w') (h0 : p0.block < B) (h1 : p1.block < B) (h : w.cell? p0 = some v0 ∧ w.cell? p1 = some v1) : w'.cell? p0 = some v0 ∧ w'.cell? p1 = some v1 := ⟨cell_keepB hb h0 h.1, cell_keepB hb h1 h.2⟩
def ThoseOut (is : Int → Bool) (w : World) (e : Ending) (w' : World) : Prop := ∃ A c out, Hid (NormL out ∧ ∀ t, hasB out t = is t) ∧ e = .returned (.slice A out.length c) ∧ IvlsAt w' A c out ∧ Below w.heap.size w w'
/-- What has been told up to the bound i. -/
def BetwK (is : Int → Bool) (D : List Int) (i : Nat) (out : List IvlD) : Prop := (∀ b a, D[0]? = some b → D[i]? = some a → Between is b a out) ∧ out.length ≤ i ∧ (∀ x, x ∈ out → I64 x.f ∧ I64 x.t)
section
variable {is : Int → Bool} {D : List Int} {i : Nat} {out o : List IvlD} {a c : Int} {z : IvlD}
theorem BetwK.start : BetwK is D 0 [] :=
  ⟨fun b a hb ha => by
    obtain rfl : b = a := by rw [hb] at ha; simpa using ha
    exact Between.start, Nat.le_refl _, fun x h => by simp at h⟩
theorem rises_low (h : D.Pairwise (· < ·)) {b : Int} (hb : D[0]? = some b) (ha : D[i]? = some a) : b ≤ a := rises_first h hb (List.mem_of_getElem? ha)
theorem first_of_D (ha : D[i]? = some a) : ∃ b, D[0]? = some b := get_lt (by have := lt_of_get ha; omega)
theorem BetwK.skip (h : BetwK is D i out) (hD : D.Pairwise (· < ·)) (hT : TurnsAt D false is) (ha : D[i]? = some a) (hc : D[i + 1]? = some c) (hn : is a = false) : BetwK is D (i + 1) out :=
  ⟨fun b c' hb hc' => by
    obtain rfl : c = c' := by rw [hc] at hc'; simpa using hc'
    exact (h.1 b a hb ha).skip (rises_lt hD ha hc) (hT.const i a c ha hc) hn, by have := h.2.1; omega, h.2.2⟩
theorem BetwK.grow (h : BetwK is D i (o ++ [z])) (hD : D.Pairwise (· < ·)) (hT : TurnsAt D false is) (ha : D[i]? = some a) (hc : D[i + 1]? = some c) (hn : is a = true) (hz : z.t = a) (hi : I64 c) : BetwK is D (i + 1) (o ++ [⟨z.f, c⟩]) :=
  ⟨fun b c' hb hc' => by
    obtain rfl : c = c' := by rw [hc] at hc'; simpa using hc'
    exact (h.1 b a hb ha).grow (rises_low hD hb ha) (rises_lt hD ha hc) (hT.const i a c ha hc) hn hz, by have := h.2.1; simp at this ⊢; omega, fun x hx => by
    rcases List.mem_append.1 hx with hx | hx
    · exact h.2.2 x (List.mem_append_left _ hx)
    · obtain rfl : x = _ := by simpa using hx
      exact ⟨(h.2.2 z (by simp)).1, hi⟩⟩
theorem BetwK.next (h : BetwK is D i out) (hD : D.Pairwise (· < ·)) (hT : TurnsAt D false is) (ha : D[i]? = some a) (hc : D[i + 1]? = some c) (hn : is a = true) (hz : ∀ y, y ∈ out → y.t ≠ a) (hia : I64 a) (hic : I64 c) : BetwK is D (i + 1) (out ++ [⟨a, c⟩]) :=
  ⟨fun b c' hb hc' => by
    obtain rfl : c = c' := by rw [hc] at hc'; simpa using hc'
    have h1 := h.1 b a hb ha
    exact h1.next (rises_low hD hb ha) (rises_lt hD ha hc) (hT.const i a c ha hc) hn fun y hy => by have := h1.low y hy; have := hz y hy; omega, by have := h.2.1; simp; omega, fun x hx => by
    rcases List.mem_append.1 hx with hx | hx
    · exact h.2.2 x hx
    · obtain rfl : x = _ := by simpa using hx
      exact ⟨hia, hic⟩⟩
/-- Only the last one can end there. -/
theorem BetwK.last (h : BetwK is D i (o ++ [z])) (ha : D[i]? = some a) (hz : z.t ≠ a) : ∀ y, y ∈ o ++ [z] → y.t ≠ a := fun y hy e => by
  obtain ⟨b, hb⟩ := first_of_D ha
  have h1 := h.1 b a hb ha
  have h2 := h1.norm.rise y hy
  have h3 := h1.low z (by simp)
  omega
theorem BetwK.fin (h : BetwK is D i out) (hD : D.Pairwise (· < ·)) (hT : TurnsAt D false is) (hi : D.length ≤ i + 1) (h0 : i < D.length ∨ (D = [] ∧ out = [])) : NormL out ∧ ∀ t, hasB out t = is t := by
  rcases h0 with h0 | ⟨rfl, rfl⟩
  · obtain ⟨a, ha⟩ := get_lt h0
    obtain ⟨b, hb⟩ := first_of_D ha
    exact (h.1 b a hb ha).fin hD hT hb ha (by omega)
  · exact ⟨.nil, fun t => (hT.empty t).symm⟩
end

set_option maxRecDepth 100000 in
set_option maxHeartbeats 8000000 in
theorem those_any (fn : Nat) (lb : Array Value) (is : Int → Bool) (eg : ∀ args w, (callFunc fn args).run Try.prog w = .ok (.enter fn args) w) (A : Option Addr) (c : Nat) (l : List Int) (w : World) (hA : IntsAt w A c l) (hl : l.length ≤ 10000)
    (hT : ∀ D : List Int, D.Pairwise (· < ·) → (∀ x, x ∈ D ↔ x ∈ l) → TurnsAt D false is)
    (hp : ∀ (W : World) (x : Int), Below w.heap.size w W → Calls Try.prog fn (#[.int .i64 x] ++ lb) W fun e w' => e = .returned (.bool (is x)) ∧ Below W.heap.size W w') :
    Calls Try.prog 73 #[.slice A l.length c, .func (.func fn) #[] lb] w (ThoseOut is w) := by
  obtain ⟨i0, hi, hz0, hz1, hz2⟩ := info_ivl2
  have hBo := bounds_any A c l w hA hl
  have HI64 := Lib.hid hA.i64
  have HP := Lib.hid hp; have HT := Lib.hid hT
  clear hA hp hT
  go_enter Try.func73, Try.ntmps73
  go_wp2_with fail
  refine hBo.mono ?_
  rintro e w1 ⟨A1, c1, D, HD, rfl, hI1, hb1⟩
  have hDl : D.length ≤ 10000 := by have := HD.out.2.2; omega
  have hD9 := hI1.len
  have HTD : Hid (TurnsAt D false is) := Lib.hid (HT.out D HD.out.1 HD.out.2.1)
  have HDI : Hid (∀ k x, D[k]? = some x → I64 x) := Lib.hid fun k x hx => HI64.out x ((HD.out.2.1 x).1 (List.mem_of_getElem? hx))
  have HI1 := Lib.hid hI1
  have hw1 := hb1.size
  clear hBo hI1
  go_wp2_with fail
  go_loopw [5, 6] (fun u v wr => ∃ (i : Nat) (out : List IvlD), v = .int .i64 i ∧ Hid (i < D.length ∨ (D = [] ∧ i = 0 ∧ out = [])) ∧ Hid (BetwK is D i out) ∧ Own ivlC 2 wr w1.heap.size 25 u out ∧ Below w1.heap.size w1 wr) (fun _ v _ => D.length - (intOf v).toNat)
  case atStart => exact ⟨0, [], rfl, Lib.hid (by cases D with
    | nil => exact .inr ⟨rfl, rfl, rfl⟩
    | cons y r => exact .inl (by simp)), Lib.hid BetwK.start, Own.nil, Below.refl _ _⟩
  case round =>
    obtain ⟨i, out, rfl, H0, HB, hO, hb⟩ := hrel
    have hil : i ≤ D.length := by rcases H0.out with h | ⟨h, h2, _⟩ <;> omega
    have hol := HB.out.2.1
    have hwr := hb.size
    by_cases hlt : i + 1 < D.length
    case neg =>
      have HF : Hid (NormL out ∧ ∀ t, hasB out t = is t) := Lib.hid (HB.out.fin HD.out.1 HTD.out (by omega) (H0.out.imp id fun h => ⟨h.1, h.2.2⟩))
      obtain ⟨Ao, co, rfl, hIo⟩ := own_ivls hO HB.out.2.2
      have hbe := hb1.trans (hb.mono hw1)
      go_wp2_with fail
      go_ret
      exact ⟨Ao, co, out, HF, rfl, hIo, hbe⟩
    case pos =>
      obtain ⟨a, ha⟩ := get_lt (show i < D.length by omega)
      obtain ⟨d, hd⟩ := get_lt hlt
      obtain ⟨b, off, rfl, hb0, x0⟩ := HI1.out.get ha
      obtain ⟨b', off', e', _, x1⟩ := HI1.out.get hd
      obtain ⟨rfl, rfl⟩ : b = b' ∧ off = off' := by simpa using e'
      have hia := HDI.out i a ha; have hid := HDI.out (i + 1) d hd
      have HIA := Lib.hid hia; have HID := Lib.hid hid
      have WX0 := Lib.hid x0; have WX1 := Lib.hid x1
      rw [← hb.cell (by exact hb0)] at x0 x1
      have HA := Lib.hid ha; have HDD := Lib.hid hd
      have hc := HP.out wr a (hb1.trans (hb.mono hw1))
      have hil' : i < D.length := by omega
      have hltz : (i : Int) + 1 < (D.length : Int) := by omega
      have hiw : IntKind.i64.wrap ((i : Int) + 1) = (i : Int) + 1 := IntWalk.i64_in _ (by omega)
      clear ha hd e' hia hid x1
      cases hq : is a
      case false =>
        rw [hq] at hc
        go_wp2_with fail
        refine hc.mono ?_
        rintro e w' ⟨rfl, hb'⟩
        go_wp2_with fail
        go_roundw
        case rel => exact ⟨i + 1, out, by go_num, Lib.hid (.inl hlt), Lib.hid (HB.out.skip HD.out.1 HTD.out HA.out HDD.out hq), hO.ext hb', hb.trans (hb'.mono hwr)⟩
        case measure => simp [intOf]; omega
      case true =>
        rw [hq] at hc
        go_wp2_with fail
        refine hc.mono ?_
        rintro e w2 ⟨rfl, hb2⟩
        have hO := hO.ext hb2
        have hb := hb.trans (hb2.mono hwr)
        have hwr := hb.size
        have x0 := (hb.cell (p := ⟨b, off + i, none⟩) hb0).trans WX0.out
        have x1 := (hb.cell (p := ⟨b, off + (i + 1), none⟩) hb0).trans WX1.out
        clear hb2
        have hcl : out.length + 1 ≤ 1000000 := by omega
        rcases List.eq_nil_or_concat out with rfl | ⟨o, z, rfl⟩
        · have HB2 : Hid (BetwK is D (i + 1) ([] ++ [⟨a, d⟩])) := Lib.hid (HB.out.next HD.out.1 HTD.out HA.out HDD.out hq (fun y hy => by simp at hy) HIA.out HID.out)
          obtain ⟨Ao, co, rfl⟩ := hO.form
          go_wp2_with fail
          go_quiet (fail)
          go_wp2_with fail
          obtain ⟨wr, hwr'⟩ : ∃ wr, wr = w2.drewN nq := ⟨_, rfl⟩
          have hb : Below w1.heap.size w1 wr := by rw [hwr']; exact below_drewN hb _
          have hO : Own ivlC 2 wr w1.heap.size 25 (.slice Ao ([] : List IvlD).length co) [] := by rw [hwr']; exact hO.drewN _
          have hwr := hb.size
          rw [← hwr']
          clear hwr' x0 x1
          have S0 : wr.cell? ⟨b, off + i, none⟩ = some (.int .i64 a) ∧ wr.cell? ⟨b, off + (i + 1), none⟩ = some (.int .i64 d) := ⟨(hb.cell (p := ⟨b, off + i, none⟩) hb0).trans WX0.out, (hb.cell (p := ⟨b, off + (i + 1), none⟩) hb0).trans WX1.out⟩
          go_region_held_law (fun w' => w'.cell? ⟨b, off + i, none⟩ = some (.int .i64 a) ∧ w'.cell? ⟨b, off + (i + 1), none⟩ = some (.int .i64 d))
            (first | exact S0 | (exact keepB2 (B := w1.heap.size) (below_drew ((Below.refl _ wr).alloc hwr _)) hb0 hb0 S0) | (exact keepB2 (B := w1.heap.size) ((below_drew ((Below.refl _ wr).alloc hwr _)).trans hb8) hb0 hb0 S0))
            (first | (refine step_append_els (enc := ivlC) rfl (.tmp 51) (.tmp 62) 22 rfl w1.heap.size 25 i0 _ 2 16 Try.underlying22 hi hz0 hz1 hz2 rfl (by decide) _ [] [⟨a, d⟩] 1 rfl (by decide) rfl (hO.alloc _).drew #[.int .i64 a, .int .i64 d] rfl _ (Blk.new wr 25 _).drew rfl rfl two_one hcl (by decide) (by simp; omega) ?_; intro v' w6 hown6 hb8 _))
          go_wp2_with fail
          go_roundw
          case rel => exact ⟨i + 1, [] ++ [⟨a, d⟩], by go_num, Lib.hid (.inl hlt), HB2, hown6, hb.trans ((below_drew ((Below.refl _ wr).alloc hwr _)).trans hb8)⟩
          case measure => simp [intOf]; omega
        · rw [List.concat_eq_append] at HB hO hol hcl
          obtain ⟨Ao, co, rfl⟩ := hO.form
          rw [List.length_append] at hO hol hcl ⊢
          simp only [List.length_cons, List.length_nil, Nat.zero_add] at hO hol hcl ⊢
          obtain ⟨go, rfl⟩ : ∃ g, Ao = some ⟨g, 0, none⟩ := by
            rcases hO.2 with ⟨h1, _⟩ | ⟨g, cap, cur, hv, _⟩
            · simp at h1
            · simp only [Value.slice.injEq] at hv
              exact ⟨g, hv.1⟩
          obtain ⟨hnm, hgo, hmc, hcm, cs, hBk, hcs, hrow⟩ := hO.cells ivlC_len2
          have hza : (o ++ [z])[o.length]? = some z := by simp
          have z0 : cs[o.length * 2]? = some (.int .i64 z.f) := by have := hrow _ z hza 0 (by decide); simpa [ivlC] using this
          have z1 : cs[o.length * 2 + 1]? = some (.int .i64 z.t) := by have := hrow _ z hza 1 (by decide); simpa [ivlC] using this
          have hjw : IntKind.i64.wrap (o.length : Int) = o.length := IntWalk.i64_in _ (by omega)
          have hd : (0 : Int) < (o.length : Int) + 1 := by omega
          obtain ⟨c1', c2', c3'⟩ := hBk.facts
          have hjl : o.length < o.length + 1 := by omega
          have HR := Lib.hid hrow
          have HMC := Lib.hid hmc
          clear hrow hmc hnm hza
          by_cases hz : z.t = a
          case pos =>
            have hd2 : (z.t == a) = true := by simpa using hz
            have HB2 := Lib.hid (HB.out.grow HD.out.1 HTD.out HA.out HDD.out hq hz HID.out)
            clear hz
            go_wp2_with fail
            go_quiet (fail)
            go_wp2_with fail
            go_roundw
            case rel =>
              refine ⟨i + 1, o ++ [⟨z.f, d⟩], by go_num, Lib.hid (.inl hlt), HB2, ?_, (below_drewN hb _).setCell hgo _⟩
              have h2 := Own.of_cells (enc := ivlC) (m := o ++ [⟨z.f, d⟩]) ivlC_len2 (by decide) ((hBk.drewN nq).set_ (o.length * 2 + 1) (.int .i64 d)) hgo (by have := HMC.out; simpa using this) hcm (by simpa using hcs) (by
                have e : (o ++ [z]).set o.length ⟨z.f, d⟩ = o ++ [⟨z.f, d⟩] := by simp
                rw [← e]
                refine HR.out.set (by simp) (fun t ht => by rw [Array.getElem?_setIfInBounds_ne (by omega)]) (fun t ht => ?_)
                have k1 : o.length * 2 + 1 < cs.size := (Array.getElem?_eq_some_iff.1 z1).1
                match t, ht with
                | 0, _ =>
                  show (cs.setIfInBounds (o.length * 2 + 1) (.int .i64 d))[o.length * 2]? = _
                  rw [Array.getElem?_setIfInBounds_ne (by omega), z0]; rfl
                | 1, _ => rw [Array.getElem?_setIfInBounds_self_of_lt k1]; rfl)
              simpa using h2
            case measure => simp [intOf]; omega
          case neg =>
            have hd2 : (z.t == a) = false := by simpa using hz
            have HB2 : Hid (BetwK is D (i + 1) (o ++ [z] ++ [⟨a, d⟩])) := Lib.hid (HB.out.next HD.out.1 HTD.out HA.out HDD.out hq (HB.out.last HA.out hz) HIA.out HID.out)
            clear hz
            go_wp2_with fail
            go_quiet (fail)
            go_wp2_with fail
            obtain ⟨wr, hwr'⟩ : ∃ wr, wr = w2.drewN nq := ⟨_, rfl⟩
            have hb : Below w1.heap.size w1 wr := by rw [hwr']; exact below_drewN hb _
            have hO : Own ivlC 2 wr w1.heap.size 25 (.slice (some ⟨go, 0, none⟩) (o.length + 1) co) (o ++ [z]) := by rw [hwr']; exact hO.drewN _
            have hwr := hb.size
            rw [← hwr']
            clear hwr' x0 x1
            have S0 : wr.cell? ⟨b, off + i, none⟩ = some (.int .i64 a) ∧ wr.cell? ⟨b, off + (i + 1), none⟩ = some (.int .i64 d) := ⟨(hb.cell (p := ⟨b, off + i, none⟩) hb0).trans WX0.out, (hb.cell (p := ⟨b, off + (i + 1), none⟩) hb0).trans WX1.out⟩
            go_region_held_law (fun w' => w'.cell? ⟨b, off + i, none⟩ = some (.int .i64 a) ∧ w'.cell? ⟨b, off + (i + 1), none⟩ = some (.int .i64 d))
              (first | exact S0 | (exact keepB2 (B := w1.heap.size) (below_drew ((Below.refl _ wr).alloc hwr _)) hb0 hb0 S0) | (exact keepB2 (B := w1.heap.size) ((below_drew ((Below.refl _ wr).alloc hwr _)).trans hb8) hb0 hb0 S0))
              (first | (refine step_append_els (enc := ivlC) rfl (.tmp 51) (.tmp 62) 22 rfl w1.heap.size 25 i0 _ 2 16 Try.underlying22 hi hz0 hz1 hz2 rfl (by decide) _ (o ++ [z]) [⟨a, d⟩] 1 rfl (by decide) rfl (hO.alloc _).drew #[.int .i64 a, .int .i64 d] rfl _ (Blk.new wr 25 _).drew rfl rfl two_one (by simp; omega) (by decide) (by simp; omega) ?_; intro v' w6 hown6 hb8 _))
            go_wp2_with fail
            go_roundw
            case rel => exact ⟨i + 1, (o ++ [z]) ++ [⟨a, d⟩], by go_num, Lib.hid (.inl hlt), HB2, hown6, hb.trans ((below_drew ((Below.refl _ wr).alloc hwr _)).trans hb8)⟩
            case measure => simp [intOf]; omega
end Go.Proofs.Ytcfachfldanddaa
/- The walk of the document's ends. -/
namespace Go.Proofs.Ytcfachfldanddaa
open Go.RowKit Go.Shelf

def endsI (l : List IvlD) : List Int := l.flatMap fun x => [x.f, x.t]
theorem endsI_snoc {l : List IvlD} {x : IvlD} : endsI (l ++ [x]) = endsI l ++ [x.f, x.t] := by simp [endsI]
theorem endsI_len : ∀ l : List IvlD, (endsI l).length = 2 * l.length
  | [] => rfl
  | x :: l => by
    show ([x.f, x.t] ++ endsI l).length = _
    rw [List.length_append, endsI_len l]
    simp
    omega
theorem mem_endsI {l : List IvlD} {n : Int} : n ∈ endsI l ↔ ∃ x, x ∈ l ∧ (n = x.f ∨ n = x.t) := by simp [endsI]
theorem ends_turns {l : List IvlD} {D : List Int} {S : List Int} (h : D.Pairwise (· < ·)) (hm : ∀ x, x ∈ D ↔ x ∈ S) (hS : ∀ x, x ∈ endsI l → x ∈ S) : TurnsAt D false (hasB l) :=
  hasB_turns h fun x hx => ⟨(hm _).2 (hS _ (mem_endsI.2 ⟨x, hx, .inl rfl⟩)), (hm _).2 (hS _ (mem_endsI.2 ⟨x, hx, .inr rfl⟩))⟩
def EndsOut (l : List IvlD) (w : World) (e : Ending) (w' : World) : Prop := ∃ v, e = .returned v ∧ Own intEnc 1 w' w.heap.size 3 v (endsI l) ∧ Below w.heap.size w w'

set_option maxRecDepth 100000 in
set_option maxHeartbeats 4000000 in
theorem ends_any (A : Option Addr) (c : Nat) (l : List IvlD) (w : World) (hI : IvlsAt w A c l) (hl : l.length ≤ 1000) :
    Calls Try.prog 74 #[.slice A l.length c] w (EndsOut l w) := by
  obtain ⟨i0, hi, hz0, hz1, hz2⟩ := info_int2
  have m1 := hI.len
  have HI := Lib.hid hI
  clear hI
  go_enter Try.func74, Try.ntmps74
  go_wp2_with fail
  go_loopw [3, 4] (fun u v wr => ∃ (k : Nat), k ≤ l.length ∧ v = .int .i64 k ∧ Own intEnc 1 wr w.heap.size 3 u (endsI (l.take k)) ∧ Below w.heap.size w wr) (fun _ v _ => l.length - (intOf v).toNat)
  case atStart => exact ⟨0, Nat.zero_le _, rfl, Own.nil, Below.refl _ _⟩
  case round =>
    obtain ⟨k, hk, rfl, hO, hb⟩ := hrel
    by_cases hlt : k < l.length
    case neg =>
      obtain rfl : k = l.length := by omega
      rw [List.take_length] at hO
      go_wp2_with fail
      go_ret
      exact ⟨_, rfl, hO, hb⟩
    case pos =>
      obtain ⟨x, hx⟩ := get_lt hlt
      obtain ⟨b, off, rfl, hb0, x0, x1⟩ := HI.out.get hx
      rw [← hb.cell (by exact hb0)] at x0 x1
      have HN : Hid (endsI (l.take (k + 1)) = endsI (l.take k) ++ [x.f, x.t]) := Lib.hid (by rw [take_succ_ hx, endsI_snoc])
      have hcl : (endsI (l.take k)).length + 2 ≤ 1000000 := by rw [endsI_len, List.length_take]; omega
      obtain ⟨acc, hacc⟩ : ∃ acc, acc = endsI (l.take k) := ⟨_, rfl⟩
      rw [← hacc] at HN hcl hO
      have hzw := hb.size
      clear hx hacc
      have S0 : wr.cell? ⟨b, off + k * 2, none⟩ = some (.int .i64 x.f) ∧ wr.cell? ⟨b, off + k * 2 + 1, none⟩ = some (.int .i64 x.t) := ⟨x0, x1⟩
      go_wp2_with fail
      go_region_held_law (fun w' => w'.cell? ⟨b, off + k * 2, none⟩ = some (.int .i64 x.f) ∧ w'.cell? ⟨b, off + k * 2 + 1, none⟩ = some (.int .i64 x.t))
        (first | exact S0 | (exact keepB2 (B := w.heap.size) (below_drew ((Below.refl _ wr).alloc hzw _)) hb0 hb0 S0) | (exact keepB2 (B := w.heap.size) ((below_drew ((Below.refl _ wr).alloc hzw _)).trans hb8) hb0 hb0 S0))
        (first | (refine step_append_els (enc := intEnc) rfl (.tmp 11) (.tmp 22) 81 rfl w.heap.size 3 i0 _ 1 8 Try.underlying81 hi hz0 hz1 hz2 rfl (by decide) _ acc [x.f, x.t] 2 rfl (by decide) rfl (hO.alloc _).drew #[.int .i64 x.f, .int .i64 x.t] rfl _ (Blk.new wr 3 _).drew rfl rfl int_one2 hcl (by decide) (by simp; omega) ?_; intro v' w6 hown6 hb8 _))
      go_wp2_with fail
      go_roundw
      case rel => exact ⟨k + 1, by omega, by go_num, by rw [HN.out]; exact hown6, hb.trans ((below_drew ((Below.refl _ wr).alloc hzw _)).trans hb8)⟩
      case measure => simp [intOf]; omega
end Go.Proofs.Ytcfachfldanddaa
/- The walk of the document's Norm. -/
namespace Go.Proofs.Ytcfachfldanddaa
open Go.RowKit Go.Shelf

theorem enters_refNorm1 : Enters Try.prog 75 := enters_of Try.func75 (by kernel_rfl) rfl
set_option maxHeartbeats 1000000 in
theorem refNorm1_any (A : Option Addr) (c b : Nat) (l : List IvlD) (t : Int) (W : World) (hc : W.cell? ⟨b, 0, none⟩ = some (.slice A l.length c)) (hI : IvlsAt W A c l) :
    Calls Try.prog 75 #[.int .i64 t, .pointer (some ⟨b, 0, none⟩)] W fun e w' => e = .returned (.bool (hasB l t)) ∧ Below W.heap.size W w' := by
  have HI := Lib.hid hI
  clear hI
  go_enter Try.func75, Try.ntmps75
  go_wp2_with (go_at_call 27; refine (refHas_any A c l t _ HI.out).mono ?_; rintro e w' ⟨rfl, rfl⟩)
  go_ret
  exact ⟨rfl, Below.refl _ _⟩

set_option maxRecDepth 100000 in
set_option maxHeartbeats 4000000 in
theorem refNorm_any (A : Option Addr) (c : Nat) (l : List IvlD) (w : World) (hI : IvlsAt w A c l) : Calls Try.prog 25 #[.slice A l.length c] w (SetOut (NormSay l) w) := by
  have m1 := hI.len
  have HI := Lib.hid hI
  clear hI
  have hmf : ∀ (fn : Fn) (first cap : Array Value) (w : World), (Instr.makeFunc fn first cap).run Try.prog w = .ok (.func fn first cap) w := fun _ _ _ _ => rfl
  have hent := enters_refNorm1
  unfold Enters at hent
  have B0 := Blk.new w 22 #[.slice A l.length c]
  obtain ⟨c1, c2, c3⟩ := B0.facts
  by_cases hl : 200 < l.length
  case pos =>
    have hd : decide ((l.length : Int) > 200) = true := by simp; omega
    have HS : Hid (NormSay l 2 []) := Lib.hid (by unfold NormSay; rw [if_pos hl]; exact ⟨rfl, rfl⟩)
    clear hl
    go_enter Try.func25, Try.ntmps25
    go_wp2_with fail
    refine bodyPost_ret (v := .tuple #[.slice none 0 0, .int .i64 2]) (by simp [results, Try.results25]) rfl ?_
    exact ⟨2, [], none, 0, HS, rfl, IvlsAt.nil, by go_grown⟩
  case neg =>
    have hd : decide ((l.length : Int) > 200) = false := by simp; omega
    have hb0 : Below w.heap.size w (w.alloc (Obj.cells #[.slice A l.length c] 22)) := by go_grown
    have HLL := Lib.hid hl
    go_enter Try.func25, Try.ntmps25
    go_wp2_with fail
    clear hd
    obtain ⟨w0, hw0⟩ : ∃ w0, w0 = w.alloc (Obj.cells #[.slice A l.length c] 22) := ⟨_, rfl⟩
    rw [← hw0] at hb0 c1 c2 c3 B0 ⊢
    have hz0 : w.heap.size < w0.heap.size := c3
    clear hw0
    go_loopw [4] (fun v wr => ∃ k : Nat, k ≤ l.length ∧ v = .int .i64 k ∧ Hid (∀ y, y ∈ l.take k → farX y = false) ∧ wr = w0) (fun v _ => l.length - (intOf v).toNat)
    case atStart => exact ⟨0, Nat.zero_le _, rfl, Lib.hid (by simp), rfl⟩
    case round =>
      obtain ⟨k, hk, rfl, HF, rfl⟩ := hrel
      by_cases hlt : k < l.length
      case neg =>
        obtain rfl : k = l.length := by omega
        have HA : Hid (¬ l.any farX = true) := Lib.hid fun h => by
          obtain ⟨x, hx, hf⟩ := List.any_eq_true.1 h
          have := HF.out x (by rwa [List.take_length])
          rw [this] at hf; simp at hf
        have hIw := HI.out.ext hb0
        go_wp2_with fail
        refine (ends_any A c l _ hIw (by omega)).mono ?_
        rintro e w2 ⟨v2, rfl, O2, hb2⟩
        obtain ⟨A2, d2, rfl, hI2⟩ := own_ints O2 (fun n hn => by
          obtain ⟨x, hx, h⟩ := mem_endsI.1 hn
          have := far_none HA.out x hx
          rcases h with rfl | rfl
          · exact near_i64 this.1
          · exact near_i64 this.2)
        have B2 := B0.ext hb2
        have hIw2 := hIw.ext hb2
        have hb2 := ext_trans hb0 hb2
        have hz2 := hb2.size
        have hT := those_any 75 #[.pointer (some ⟨w.heap.size, 0, none⟩)] (hasB l) hent A2 d2 (endsI l) w2 hI2 (by rw [endsI_len]; omega) (fun D h1 h2 => ends_turns h1 h2 fun _ h => h)
          (fun W x hb => refNorm1_any A c w.heap.size l x W ((B2.ext hb).cell 0) (hIw2.ext hb))
        clear c1 c2 c3 hIw O2 hI2
        obtain ⟨c1, c2, c3⟩ := B2.facts
        go_wp2_with fail
        refine hT.mono ?_
        rintro e w3 ⟨A3, d3, out, HO, rfl, hI3, hb3⟩
        clear hT
        go_wp2_with fail
        refine bodyPost_ret (v := .tuple #[.slice A3 out.length d3, .int .i64 0]) (by simp [results, Try.results25]) rfl ?_
        exact ⟨0, out, A3, d3, Lib.hid (by unfold NormSay; rw [if_neg HLL.out, if_neg HA.out]; exact ⟨rfl, HO.out⟩), rfl, hI3, ext_trans hb2 hb3⟩
      case pos =>
        obtain ⟨x, hx⟩ := get_lt hlt
        obtain ⟨b, off, rfl, hb1, x0, x1⟩ := (HI.out.ext hb0).get hx
        have HX := Lib.hid hx
        clear hx
        cases f1 : nearB x.f
        case false =>
          have HS : Hid (NormSay l 5 []) := Lib.hid (by unfold NormSay; rw [if_neg HLL.out, if_pos (List.any_eq_true.2 ⟨x, List.mem_of_getElem? HX.out, by simp [farX, farB, f1]⟩)]; exact ⟨rfl, rfl⟩)
          go_wp2_with (first | (go_at_call 72; refine (near_is (by assumption) _).mono ?_; rintro e w' ⟨rfl, rfl⟩))
          refine bodyPost_ret (v := .tuple #[.slice none 0 0, .int .i64 5]) (by simp [results, Try.results25]) rfl ?_
          exact ⟨5, [], none, 0, HS, rfl, IvlsAt.nil, hb0⟩
        cases f2 : nearB x.t
        case false =>
          have HS : Hid (NormSay l 5 []) := Lib.hid (by unfold NormSay; rw [if_neg HLL.out, if_pos (List.any_eq_true.2 ⟨x, List.mem_of_getElem? HX.out, by simp [farX, farB, f1, f2]⟩)]; exact ⟨rfl, rfl⟩)
          go_wp2_with (first | (go_at_call 72; refine (near_is (by assumption) _).mono ?_; rintro e w' ⟨rfl, rfl⟩))
          refine bodyPost_ret (v := .tuple #[.slice none 0 0, .int .i64 5]) (by simp [results, Try.results25]) rfl ?_
          exact ⟨5, [], none, 0, HS, rfl, IvlsAt.nil, hb0⟩
        have HF2 : Hid (∀ y, y ∈ l.take (k + 1) → farX y = false) := Lib.hid fun y hy => by
          rw [take_succ_ HX.out] at hy
          rcases List.mem_append.1 hy with hy | hy
          · exact HF.out y hy
          · obtain rfl : y = x := by simpa using hy
            simp [farX, farB, f1, f2]
        go_wp2_with (first | (go_at_call 72; refine (near_is (by assumption) _).mono ?_; rintro e w' ⟨rfl, rfl⟩))
        go_roundw
        case rel => exact ⟨k + 1, by omega, by go_num, HF2, by trivial⟩
        case measure => simp [intOf]; omega
end Go.Proofs.Ytcfachfldanddaa
/- The walk of the law IvlSays. -/
namespace Go.Proofs.Ytcfachfldanddaa
open Go.RowKit Go.Shelf

set_option maxRecDepth 100000 in
set_option maxHeartbeats 8000000 in
theorem ivlSays_calls (A0 : Option Addr) (c0 : Nat) (l : List IvlD) {w0 : World} (hI0 : IvlsAt w0 A0 c0 l) (t : Int) (_ : I64 t) :
    Calls Try.prog 5 #[.slice A0 l.length c0, .int .i64 t] w0 fun e w' => e = .returned (.bool true) ∧ Below w0.heap.size w0 w' := by
  have m0 := hI0.len
  have H0 := Lib.hid hI0
  have hSet := refSet_any A0 c0 l w0 hI0
  have hCk := fun W (h : IvlsAt W A0 c0 l) => ivlCheck_any A0 c0 l W h
  have hSz := fun W (h : IvlsAt W A0 c0 l) => ivlSize_any A0 c0 l W h
  have HOK : Hid (setErr l = 0 → ¬ 200 < l.length ∧ SetOk l) := Lib.hid setErr_zero
  obtain ⟨er, her⟩ : ∃ er, setErr l = er := ⟨_, rfl⟩
  rw [her] at hSet HOK
  simp only [her] at hCk hSz
  obtain ⟨sz, hsz⟩ : ∃ sz, (if er = 0 then sizeL l else 0) = sz := ⟨_, rfl⟩
  simp only [hsz] at hSz
  have HSZ := Lib.hid hsz
  have HCK := Lib.hid hCk; have HSI := Lib.hid hSz
  clear hI0 her hsz hCk hSz
  obtain ⟨hb, hhb⟩ : ∃ b, hasB l t = b := ⟨_, rfl⟩
  have HHB := Lib.hid hhb
  clear hhb
  go_enter Try.func5, Try.ntmps5
  go_wp2_with fail
  refine hSet.mono ?_
  rintro e w1 ⟨rfl, hb1⟩
  clear hSet
  go_wp2_with fail
  refine (ivlNorm_any A0 c0 l _ (H0.out.ext hb1)).mono ?_
  rintro e w2 ⟨ea, a, Aa, ca, HSa, rfl, hIa, hb2⟩
  have hb2 := ext_trans hb1 hb2
  clear hb1
  go_wp2_with fail
  refine (refNorm_any A0 c0 l _ (H0.out.ext hb2)).mono ?_
  rintro e w3 ⟨eb, b, Ab, cb, HSb, rfl, hIb, hb3⟩
  have hab := HSa.out.same HSb.out
  obtain ⟨rfl, rfl⟩ := hab
  have hIa := hIa.ext hb3
  have hb3 := ext_trans hb2 hb3
  clear hb2
  go_wp2_with fail
  refine (HSI.out _ (H0.out.ext hb3)).mono ?_
  rintro e w4 ⟨rfl, hb4⟩
  have hIa := hIa.ext hb4; have hIb := hIb.ext hb4
  have hb4 := ext_trans hb3 hb4
  clear hb3
  go_wp2_with fail
  go_loopw [12, 34] (fun u v wr => ∃ (k : Nat) (s : Int), k ≤ l.length ∧ v = .int .i64 k ∧ u = .int .i64 s ∧ Hid (er = 0 → s = sizeL (l.take k)) ∧ Below w4.heap.size w4 wr) (fun _ v _ => l.length - (intOf v).toNat)
  case atStart => exact ⟨0, 0, Nat.zero_le _, rfl, rfl, Lib.hid fun _ => rfl, Below.refl _ _⟩
  case round =>
    obtain ⟨k, s, hk, rfl, rfl, HK, hb5⟩ := hrel
    have hb6 := ext_trans hb4 hb5
    by_cases hlt : k < l.length
    case pos =>
      obtain ⟨x, hx⟩ := get_lt hlt
      obtain ⟨bb, off, rfl, hb0, x0, x1⟩ := (H0.out.ext hb6).get hx
      have HX := Lib.hid hx
      clear hx
      by_cases h0 : er = 0
      case pos =>
        obtain ⟨hl, hok⟩ := HOK.out h0
        have hs0 := size_pre hok (by omega) k
        have hs1 := size_pre hok (by omega) (k + 1)
        have hnx := hok.at_ HX.out
        have n1 := near_iff.1 hnx.1
        have n2 := near_iff.1 hnx.2.1
        have hsk := HK.out h0
        have hsn : sizeL (l.take (k + 1)) = s + (x.t - x.f) := by rw [take_succ_ HX.out, size_snoc, hsk]
        rw [← hsk] at hs0
        rw [hsn] at hs1
        have HSN := Lib.hid hsn
        have hw1 : IntKind.i64.wrap (x.t - x.f) = x.t - x.f := IntWalk.i64_in _ (by omega)
        have hw2 : IntKind.i64.wrap (s + (x.t - x.f)) = s + (x.t - x.f) := IntWalk.i64_in _ (by omega)
        clear hsn hsk hnx h0 hok hl
        go_wp2_with fail
        go_roundw
        case rel => exact ⟨k + 1, s + (x.t - x.f), by omega, by go_num, rfl, Lib.hid fun _ => HSN.out.symm, ext_alloc hb5 _⟩
        case measure => simp [intOf]; omega
      case neg =>
        have H00 := Lib.hid h0
        clear h0
        go_wp2_with fail
        go_roundw
        case rel => exact ⟨k + 1, _, by omega, by go_num, rfl, Lib.hid fun h => absurd h H00.out, ext_alloc hb5 _⟩
        case measure => simp [intOf]; omega
    case neg =>
      obtain rfl : k = l.length := by omega
      have hIa := hIa.ext hb5; have hIb := hIb.ext hb5
      have HW : Hid (er = 0 → s = sz) := Lib.hid fun h => by rw [HK.out h, List.take_length, ← HSZ.out, if_pos h]
      have HW0 : Hid (¬ er = 0 → 0 = sz) := Lib.hid fun h => by rw [← HSZ.out, if_neg h]
      clear hb4 hb5 HK
      cases hb
      all_goals
        by_cases h0 : er = 0
        case pos =>
          have hd : (er != 0) = false := by simp [h0]
          obtain rfl : s = sz := HW.out h0
          clear h0
          go_wp2_with fail
          refine (HCK.out _ (H0.out.ext hb6)).mono ?_
          rintro e w7 ⟨rfl, hb7⟩
          have hIa := hIa.ext hb7; have hIb := hIb.ext hb7
          have hb7 := ext_trans hb6 hb7
          go_wp2_with fail
          refine (equalIvlsSame _ _ _ _ a _ hIa hIb).mono ?_
          rintro e w8 ⟨rfl, hb8⟩
          have hb8 := ext_trans hb7 hb8
          go_wp2_with fail
          refine (ivlHas_any A0 c0 l t _ (H0.out.ext hb8)).mono ?_
          rw [HHB.out]
          rintro e w9 ⟨rfl, hb9⟩
          have hb9 := ext_trans hb8 hb9
          go_wp2_with fail
          refine (refHas_any A0 c0 l t _ (H0.out.ext hb9)).mono ?_
          rw [HHB.out]
          rintro e w' ⟨rfl, rfl⟩
          go_wp2_with fail
          go_ret
          exact ⟨by simp, hb9⟩
        case neg =>
          have hd : (er != 0) = true := by simp [h0]
          obtain rfl : sz = 0 := (HW0.out h0).symm
          clear h0
          go_wp2_with fail
          refine (HCK.out _ (H0.out.ext hb6)).mono ?_
          rintro e w7 ⟨rfl, hb7⟩
          have hIa := hIa.ext hb7; have hIb := hIb.ext hb7
          have hb7 := ext_trans hb6 hb7
          go_wp2_with fail
          refine (equalIvlsSame _ _ _ _ a _ hIa hIb).mono ?_
          rintro e w8 ⟨rfl, hb8⟩
          have hb8 := ext_trans hb7 hb8
          go_wp2_with fail
          refine (ivlHas_any A0 c0 l t _ (H0.out.ext hb8)).mono ?_
          rw [HHB.out]
          rintro e w9 ⟨rfl, hb9⟩
          have hb9 := ext_trans hb8 hb9
          go_wp2_with fail
          refine (refHas_any A0 c0 l t _ (H0.out.ext hb9)).mono ?_
          rw [HHB.out]
          rintro e w' ⟨rfl, rfl⟩
          go_wp2_with fail
          go_ret
          exact ⟨by simp, hb9⟩
end Go.Proofs.Ytcfachfldanddaa
