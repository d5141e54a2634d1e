/- Several texts in one: Place, Own, RefGo, Go, Out. -/
import Derived.OwnWalk
import Derived.Test.YtcgnalpcbcpmkaaBd449dd27526
import Derived.Test.YtcgnalpcbcpmkaaBd298c705468
import Derived.Test.YtcgnalpcbcpmkaaBdcfcb0331ab
/- The walks: what is wrong with a place (program and document), when one lands (document). -/
namespace Go.Proofs.Ytcgnalpcbcpmkaa
open Go.RowKit

theorem first_of {b : Bool} {x : Int} (h : b = false → x = 1) (h' : b = true → x = 0) {d : Bool} (e : b = d) : x = if d then 0 else 1 := by
  cases d
  · exact h e
  · exact h' e
theorem neq_of {a : Int} (h : a = 0) : (a != 0) = false := by simp [h]
theorem neq_of' {a : Int} (h : ¬ a = 0) : (a != 0) = true := by simp [h]

set_option maxHeartbeats 1000000 in
theorem checkPlace_any (A A' : Option Addr) (c c' : Nat) (g : GraphD) (v t : Int) (w : World) (hG : GraphAt w A c A' c' g) :
    Calls Try.prog 92 #[gV A c A' c' g, .int .i64 v, .int .i64 t] w fun e w' => e = .returned (.int .i64 (placeErr g v t)) ∧ Below w.heap.size w w' := by
  have m1 : g.lives.length ≤ 9223372036854775807 := Nat.le_trans hG.lc hG.cm
  by_cases h0 : graphErr g = 0
  case neg =>
    have H0 := Lib.hid (placeErr_g (v := v) (t := t) h0)
    have hn := neq_of' h0
    clear h0
    go_enter Try.func92, Try.ntmps92
    go_wp2_with fail
    refine (check_any _ _ _ _ g _ (hG.ext (by go_grown))).mono ?_
    rintro e w1 ⟨rfl, hb1⟩
    have hb2 : Below w.heap.size w w1 := ext_trans (by go_grown) hb1
    go_wp2_with fail
    go_ret
    exact ⟨ret_int H0.out.symm, hb2⟩
  have H0 := Lib.hid h0
  cases hv : inB v 0 ((g.lives.length : Int) - 1)
  case false =>
    have H1 := Lib.hid (placeErr_v (t := t) h0 hv)
    simp only [inB, decide_eq_false_iff_not] at hv
    go_enter Try.func92, Try.ntmps92
    go_wp2_with fail
    refine (check_any _ _ _ _ g _ (hG.ext (by go_grown))).mono ?_
    rintro e w1 ⟨rfl, hb1⟩
    obtain ⟨B0, c1, c2, c3⟩ := (Blk.new w 28 (gC A c A' c' g)).go hb1
    have hb2 : Below w.heap.size w w1 := ext_trans (by go_grown) hb1
    go_wp2_with fail
    all_goals go_ret
    all_goals exact ⟨ret_int H1.out.symm, hb2⟩
  case true =>
    cases ht : inB t 0 (g.h - 1)
    case false =>
      have H1 := Lib.hid (placeErr_t h0 hv ht)
      simp only [inB, decide_eq_false_iff_not, decide_eq_true_eq] at hv ht
      obtain ⟨hv1, hv2⟩ := hv
      go_enter Try.func92, Try.ntmps92
      go_wp2_with fail
      refine (check_any _ _ _ _ g _ (hG.ext (by go_grown))).mono ?_
      rintro e w1 ⟨rfl, hb1⟩
      obtain ⟨B0, c1, c2, c3⟩ := (Blk.new w 28 (gC A c A' c' g)).go hb1
      have hb2 : Below w.heap.size w w1 := ext_trans (by go_grown) hb1
      go_wp2_with fail
      all_goals go_ret
      all_goals exact ⟨ret_int H1.out.symm, hb2⟩
    case true =>
      have H1 := Lib.hid (placeErr_0 h0 hv ht)
      simp only [inB, decide_eq_true_eq] at hv ht
      obtain ⟨hv1, hv2⟩ := hv
      obtain ⟨ht1, ht2⟩ := ht
      go_enter Try.func92, Try.ntmps92
      go_wp2_with fail
      refine (check_any _ _ _ _ g _ (hG.ext (by go_grown))).mono ?_
      rintro e w1 ⟨rfl, hb1⟩
      obtain ⟨B0, c1, c2, c3⟩ := (Blk.new w 28 (gC A c A' c' g)).go hb1
      have hb2 : Below w.heap.size w w1 := ext_trans (by go_grown) hb1
      go_wp2_with fail
      go_ret
      exact ⟨ret_int H1.out.symm, hb2⟩

set_option maxHeartbeats 1000000 in
theorem place_any (A A' : Option Addr) (c c' : Nat) (g : GraphD) (v t : Int) (w : World) (hG : GraphAt w A c A' c' g) :
    Calls Try.prog 39 #[gV A c A' c' g, .int .i64 v, .int .i64 t] w fun e w' => e = .returned (.int .i64 (placeErr g v t)) ∧ Below w.heap.size w w' := by
  have m1 : g.lives.length ≤ 9223372036854775807 := Nat.le_trans hG.lc hG.cm
  by_cases h0 : graphErr g = 0
  case neg =>
    have H0 := Lib.hid (placeErr_g (v := v) (t := t) h0)
    have hn := neq_of' h0
    clear h0
    go_enter Try.func39, Try.ntmps39
    go_wp2_with fail
    refine (refGraph_any _ _ _ _ g _ (hG.ext (by go_grown))).mono ?_
    rintro e w1 ⟨rfl, hb1⟩
    have hb2 : Below w.heap.size w w1 := ext_trans (by go_grown) hb1
    go_wp2_with fail
    go_ret
    exact ⟨ret_int H0.out.symm, hb2⟩
  have hh := (valid_of h0).h0
  have hh2 := (valid_of h0).h1
  have H0 := Lib.hid h0
  cases hv : inB v 0 ((g.lives.length : Int) - 1)
  case false =>
    have H1 := Lib.hid (placeErr_v (t := t) h0 hv)
    go_enter Try.func39, Try.ntmps39
    go_wp2_with fail
    refine (refGraph_any _ _ _ _ g _ (hG.ext (by go_grown))).mono ?_
    rintro e w1 ⟨rfl, hb1⟩
    obtain ⟨B0, c1, c2, c3⟩ := (Blk.new w 28 (gC A c A' c' g)).go hb1
    have hb2 : Below w.heap.size w w1 := ext_trans (by go_grown) hb1
    go_wp2_with (go_at_call 46; refine (in_any _ _ _ _).mono ?_; rintro e w' ⟨rfl, rfl⟩)
    go_ret
    exact ⟨ret_int H1.out.symm, hb2⟩
  case true =>
    cases ht : inB t 0 (g.h - 1)
    all_goals
      have H1 := Lib.hid (first_of (placeErr_t h0 hv) (placeErr_0 h0 hv) ht)
      go_enter Try.func39, Try.ntmps39
      go_wp2_with fail
      refine (refGraph_any _ _ _ _ g _ (hG.ext (by go_grown))).mono ?_
      rintro e w1 ⟨rfl, hb1⟩
      obtain ⟨B0, c1, c2, c3⟩ := (Blk.new w 28 (gC A c A' c' g)).go hb1
      have hb2 : Below w.heap.size w w1 := ext_trans (by go_grown) hb1
      go_wp2_with (go_at_call 46; refine (in_any _ _ _ _).mono ?_; rintro e w' ⟨rfl, rfl⟩)
      go_ret
      exact ⟨ret_int H1.out.symm, hb2⟩

/-- The three results of Lands. -/
def landsR (o : Option (LegD × Int)) : Value := match o with
  | some (l, to) => .tuple #[.int .i64 to, .int .i64 l.cost, .bool true]
  | none => .tuple #[.int .i64 0, .int .i64 0, .bool false]

set_option maxHeartbeats 1000000 in
theorem lands_any (A A' : Option Addr) (c c' : Nat) (g : GraphD) (x : EdgeD) (i t : Int) (w : World) (hG : GraphAt w A c A' c' g) (hV : Valid g) (hi0 : 0 ≤ i) (hix : g.edges[i.toNat]? = some x) (ht : I64 t) :
    Calls Try.prog 95 #[gV A c A' c' g, .int .i64 i, .int .i64 t] w fun e w' => e = .returned (landsR (arrive g x t)) ∧ Below w.heap.size w w' := by
  obtain ⟨ht0, ht1⟩ := ht
  have hx : EdgeOk g x := hV.edges x (List.mem_of_getElem? hix)
  have hlen := lt_of_get hix
  have hi1 : i < (g.edges.length : Int) := by omega
  have hne := hV.ne
  obtain ⟨be, oe, hE⟩ := hG.edges
  obtain ⟨rfl, hbe, ⟨⟨x0, x1, L, cl, x2, hl1, hl2, hL⟩, _⟩⟩ := hE _ x hix
  have hl : x.legs.length ≤ maxLen := Nat.le_trans hl1 hl2
  unfold cellIs at x0 x1 x2
  clear hE hix
  cases h : leaves t x.legs with
  | none =>
    have H := Lib.hid h
    have HR := Lib.hid (arrive_no (g := g) h)
    clear h
    go_enter Try.func95, Try.ntmps95
    go_wp2_with fail
    refine (refLeg_none _ (hL.ext RLeg.stable (by go_grown)) hl H.out).mono ?_
    rintro e w1 ⟨rfl, hb1⟩
    have hb2 : Below w.heap.size w w1 := ext_trans (by go_grown) hb1
    go_wp2_with fail
    go_ret3
    exact ⟨by rw [HR.out]; rfl, ext_alloc hb2 _⟩
  | some l =>
    have hm := leaves_mem h
    have hl' := hx.legs l hm.1
    have ha0 := hx.a0; have ha1 := hx.a1; have hb0 := hx.b0; have hb1' := hx.b1
    have hh := hV.h1
    have H := Lib.hid h
    have HR := Lib.hid (arrive_of (g := g) h)
    clear h
    by_cases hA : aliveB g x.a t = true
    case neg =>
      have hA' : aliveB g x.a t = false := by simpa using hA
      clear hA
      have HA := Lib.hid hA'
      go_enter Try.func95, Try.ntmps95
      go_wp2_with fail
      refine (refLeg_some _ (hL.ext RLeg.stable (by go_grown)) hl H.out).mono ?_
      rintro e w1 ⟨rfl, hb1⟩
      obtain ⟨B0, c1, c2, c3⟩ := Blk.go (g := w.heap.size) (t := 28) (cs := gC A c _ c' g) ((Blk.new _ _ _).alloc _) hb1
      obtain ⟨B1, d1, d2, d3⟩ := Blk.go (g := w.heap.size + 1) (t := 99) (cs := #[.int .i64 x.a, .int .i64 x.b, .slice L x.legs.length cl]) (Blk.new_ (by simp)) hb1
      have hb2 : Below w.heap.size w w1 := ext_trans (by go_grown) hb1
      clear hb1
      go_wp2_with fail
      refine (refAlive_any _ _ _ _ g x.a t _ (hG.ext (ext_alloc hb2 _)) ha0 ha1).mono ?_
      rintro e w2 ⟨rfl, hb3⟩
      obtain ⟨B0', c1', c2', c3'⟩ := (B0.alloc _).go hb3
      obtain ⟨B1', d1', d2', d3'⟩ := (B1.alloc _).go hb3
      obtain ⟨B3', e1', e2', e3'⟩ := (Blk.new w1 114 #[.int .i64 l.f, .int .i64 l.t, .int .i64 l.time, .int .i64 l.cost]).go hb3
      have hb4 : Below w.heap.size w w2 := ext_trans (ext_alloc hb2 _) hb3
      clear hb3 c1 c2 c3 d1 d2 d3 B0 B1
      go_wp2_with fail
      go_ret3
      exact ⟨by rw [HR.out, if_neg (by simp [HA.out])]; rfl, by go_grown⟩
    have HA := Lib.hid hA
    by_cases hH : t + l.time < g.h
    case neg =>
      have HH := Lib.hid hH
      go_enter Try.func95, Try.ntmps95
      go_wp2_with fail
      refine (refLeg_some _ (hL.ext RLeg.stable (by go_grown)) hl H.out).mono ?_
      rintro e w1 ⟨rfl, hb1⟩
      obtain ⟨B0, c1, c2, c3⟩ := Blk.go (g := w.heap.size) (t := 28) (cs := gC A c _ c' g) ((Blk.new _ _ _).alloc _) hb1
      obtain ⟨B1, d1, d2, d3⟩ := Blk.go (g := w.heap.size + 1) (t := 99) (cs := #[.int .i64 x.a, .int .i64 x.b, .slice L x.legs.length cl]) (Blk.new_ (by simp)) hb1
      have hb2 : Below w.heap.size w w1 := ext_trans (by go_grown) hb1
      clear hb1
      go_wp2_with fail
      refine (refAlive_any _ _ _ _ g x.a t _ (hG.ext (ext_alloc hb2 _)) ha0 ha1).mono ?_
      rintro e w2 ⟨rfl, hb3⟩
      obtain ⟨B0', c1', c2', c3'⟩ := (B0.alloc _).go hb3
      obtain ⟨B1', d1', d2', d3'⟩ := (B1.alloc _).go hb3
      obtain ⟨B3', e1', e2', e3'⟩ := (Blk.new w1 114 #[.int .i64 l.f, .int .i64 l.t, .int .i64 l.time, .int .i64 l.cost]).go hb3
      have hb4 : Below w.heap.size w w2 := ext_trans (ext_alloc hb2 _) hb3
      clear hb3 c1 c2 c3 d1 d2 d3 B0 B1
      go_wp2_with fail
      go_ret3
      exact ⟨by rw [HR.out, if_neg (by exact fun hh => by have := HH.out; omega)]; rfl, by go_grown⟩
    have HH := Lib.hid hH
    cases hB : aliveB g x.b (t + l.time)
    case false =>
      have HB := Lib.hid hB
      go_enter Try.func95, Try.ntmps95
      go_wp2_with fail
      refine (refLeg_some _ (hL.ext RLeg.stable (by go_grown)) hl H.out).mono ?_
      rintro e w1 ⟨rfl, hb1⟩
      obtain ⟨B0, c1, c2, c3⟩ := Blk.go (g := w.heap.size) (t := 28) (cs := gC A c _ c' g) ((Blk.new _ _ _).alloc _) hb1
      obtain ⟨B1, d1, d2, d3⟩ := Blk.go (g := w.heap.size + 1) (t := 99) (cs := #[.int .i64 x.a, .int .i64 x.b, .slice L x.legs.length cl]) (Blk.new_ (by simp)) hb1
      have hb2 : Below w.heap.size w w1 := ext_trans (by go_grown) hb1
      clear hb1
      go_wp2_with fail
      refine (refAlive_any _ _ _ _ g x.a t _ (hG.ext (ext_alloc hb2 _)) ha0 ha1).mono ?_
      rintro e w2 ⟨rfl, hb3⟩
      obtain ⟨B0', c1', c2', c3'⟩ := (B0.alloc _).go hb3
      obtain ⟨B1', d1', d2', d3'⟩ := (B1.alloc _).go hb3
      obtain ⟨B3', e1', e2', e3'⟩ := (Blk.new w1 114 #[.int .i64 l.f, .int .i64 l.t, .int .i64 l.time, .int .i64 l.cost]).go hb3
      have hb4 : Below w.heap.size w w2 := ext_trans (ext_alloc hb2 _) hb3
      clear hb3 c1 c2 c3 d1 d2 d3 B0 B1
      go_wp2_with fail
      refine (refAlive_any _ _ _ _ g x.b (t + l.time) _ (hG.ext hb4) hb0 hb1').mono ?_
      rintro e w3 ⟨rfl, hb5⟩
      have hb6 : Below w.heap.size w w3 := ext_trans hb4 hb5
      go_wp2_with fail
      go_ret3
      exact ⟨by rw [HR.out, if_neg (by exact fun hh => by rw [HB.out] at hh; exact absurd hh.2.2 (by simp))]; rfl, by go_grown⟩
    case true =>
      have HB := Lib.hid hB
      go_enter Try.func95, Try.ntmps95
      go_wp2_with fail
      refine (refLeg_some _ (hL.ext RLeg.stable (by go_grown)) hl H.out).mono ?_
      rintro e w1 ⟨rfl, hb1⟩
      obtain ⟨B0, c1, c2, c3⟩ := Blk.go (g := w.heap.size) (t := 28) (cs := gC A c _ c' g) ((Blk.new _ _ _).alloc _) hb1
      obtain ⟨B1, d1, d2, d3⟩ := Blk.go (g := w.heap.size + 1) (t := 99) (cs := #[.int .i64 x.a, .int .i64 x.b, .slice L x.legs.length cl]) (Blk.new_ (by simp)) hb1
      have hb2 : Below w.heap.size w w1 := ext_trans (by go_grown) hb1
      clear hb1
      go_wp2_with fail
      refine (refAlive_any _ _ _ _ g x.a t _ (hG.ext (ext_alloc hb2 _)) ha0 ha1).mono ?_
      rintro e w2 ⟨rfl, hb3⟩
      obtain ⟨B0', c1', c2', c3'⟩ := (B0.alloc _).go hb3
      obtain ⟨B1', d1', d2', d3'⟩ := (B1.alloc _).go hb3
      obtain ⟨B3', e1', e2', e3'⟩ := (Blk.new w1 114 #[.int .i64 l.f, .int .i64 l.t, .int .i64 l.time, .int .i64 l.cost]).go hb3
      have hb4 : Below w.heap.size w w2 := ext_trans (ext_alloc hb2 _) hb3
      clear hb3 c1 c2 c3 d1 d2 d3 B0 B1
      go_wp2_with fail
      refine (refAlive_any _ _ _ _ g x.b (t + l.time) _ (hG.ext hb4) hb0 hb1').mono ?_
      rintro e w3 ⟨rfl, hb5⟩
      obtain ⟨B3q, e1q, e2q, e3q⟩ := B3'.go hb5
      have hb6 : Below w.heap.size w w3 := ext_trans hb4 hb5
      clear hb5 B0' c1' c2' c3' B1' d1' d2' d3' B3' e1' e2' e3'
      go_wp2_with fail
      go_quiet (fail)
      go_wp2
      go_ret3
      exact ⟨by rw [HR.out, if_pos ⟨HA.out, HH.out, HB.out⟩]; rfl, below_drewN hb6 _⟩
end Go.Proofs.Ytcgnalpcbcpmkaa
/- Lists that a call builds for itself: what it owns, how an append makes it longer, how it reads in the end. -/
namespace Go.Proofs.Ytcgnalpcbcpmkaa
open Go.RowKit

/-- The slice value v owns the list l, each element of sz cells as enc says, in blocks from base on. -/
def Own {α : Type} (enc : α → List Value) (sz : Nat) (w : World) (base : Nat) (e : TypeId) (v : Value) (l : List α) : Prop := w.ownsRow base e sz v l.length (l.flatMap enc)
theorem Own.nil {α : Type} {enc : α → List Value} {sz : Nat} {w : World} {base : Nat} {e : TypeId} : Own enc sz w base e (.slice none 0 0) ([] : List α) := World.ownsRow_nil _ _ _ _
section
variable {α : Type} {enc : α → List Value} {sz : Nat} {w w' : World} {base : Nat} {e : TypeId} {v : Value} {l : List α}
theorem Own.alloc (h : Own enc sz w base e v l) (o : Obj) : Own enc sz (w.alloc o) base e v l := World.ownsRow.alloc h o
theorem Own.drew (h : Own enc sz w base e v l) : Own enc sz w.drew base e v l := h
theorem Own.drewN (h : Own enc sz w base e v l) (n : Nat) : Own enc sz (w.drewN n) base e v l := h
theorem Own.ext (h : Own enc sz w base e v l) (hb : Below w.heap.size w w') : Own enc sz w' base e v l := by
  refine ⟨h.1, ?_⟩
  rcases h.2 with h2 | ⟨g, cap, cur, hv, hg, hh, r⟩
  · exact .inl h2
  · have hlt : g < w.heap.size := by
      rcases Nat.lt_or_ge g w.heap.size with hlt | hge
      · exact hlt
      · rw [Array.getElem?_eq_none hge] at hh; cases hh
    exact .inr ⟨g, cap, cur, hv, hg, (hb.block g hlt).trans hh, r⟩
theorem Own.form (h : Own enc sz w base e v l) : ∃ A c, v = .slice A l.length c := by
  rcases h.2 with ⟨rfl, h0⟩ | ⟨g, cap, cur, rfl, _⟩
  · exact ⟨none, 0, by rw [h0]⟩
  · exact ⟨_, _, rfl⟩
theorem Own.len (h : Own enc sz w base e v l) : l.length ≤ maxLen := by
  rcases h.2 with ⟨rfl, h0⟩ | ⟨g, cap, cur, rfl, _, _, h1, h2, _⟩
  · rw [h0]; exact Nat.zero_le _
  · exact Nat.le_trans h1 h2
/-- What is owned reads as the list. -/
theorem Own.slAt {R : World → Nat → Nat → α → Prop} (hsz : ∀ x, (enc x).length = sz) (hR : ∀ x, x ∈ l → ∀ b o, (∀ j u, (enc x)[j]? = some u → cellIs w b (o + j) u) → R w b o x) (h : Own enc sz w base e v l) :
    ∃ A c, v = .slice A l.length c ∧ SlAt R sz w A l := by
  rcases h.2 with ⟨rfl, h0⟩ | ⟨g, cap, cur, rfl, hg, hh, hnc, hcm, hcs, htake⟩
  · refine ⟨none, 0, by rw [h0], 0, 0, fun i x hx => ?_⟩
    have : l = [] := List.eq_nil_of_length_eq_zero h0
    subst this
    simp at hx
  · refine ⟨some ⟨g, 0, none⟩, cap, rfl, g, 0, fun i x hx => ⟨rfl, ?_, ?_⟩⟩
    · rcases Nat.lt_or_ge g w.heap.size with hlt | hge
      · exact hlt
      · rw [Array.getElem?_eq_none hge] at hh; cases hh
    · refine hR x (List.mem_of_getElem? hx) g _ fun j u hu => ?_
      have hil := lt_of_get hx
      have hj : j < sz := by rw [← hsz x]; exact lt_of_get hu
      have hfl : ∀ (l : List α) (i : Nat), l[i]? = some x → (l.flatMap enc)[i * sz + j]? = some u := by
        intro l
        induction l with
        | nil => intro i h; simp at h
        | cons y l ih =>
          intro i h
          cases i with
          | zero =>
            obtain rfl : y = x := by simpa using h
            rw [List.flatMap_cons, List.getElem?_append_left (by rw [hsz]; omega)]
            simpa using hu
          | succ i =>
            have h' : l[i]? = some x := by simpa using h
            rw [List.flatMap_cons, List.getElem?_append_right (by rw [hsz, Nat.succ_mul]; omega), hsz]
            have e : (i + 1) * sz + j - sz = i * sz + j := by rw [Nat.succ_mul]; omega
            rw [e]
            exact ih i h'
      have h1 := hfl l i hx
      rw [← htake] at h1
      have hlt : i * sz + j < l.length * sz := by
        have := lt_of_get h1
        rw [List.length_take] at this
        omega
      rw [List.getElem?_take_of_lt hlt] at h1
      show w.cell? _ = _
      rw [cell_of_row w g _ cur e (0, 0) hh]
      simpa using h1
end

theorem wpList_append_el {P : Program} {ops : Array Oper} {rest : List Oper} {o : Oper} {a : Act} {Q : Exit → Act → World → Prop} {w0 : World} {α : Type} {enc : α → List Value} (hgd : o.guard = none) (s x : Operand) (t : TypeId)
    (ho : o.op = .call { callee := .builtin .append, args := #[s, x], argTypes := #[t, t] })
    (base : Nat) (e : TypeId) (i : TypeInfo) (z : Value) (size bytes : Nat) (ht : P.underlying t = some (.slice e)) (hi : P.info? e = some i) (hz : i.zero = some z)
    (hsize : i.size = size) (hby : i.bytes = bytes) (hzs : z.cells.size = size) (hsz : 0 < size)
    (v : Value) (l : List α) (y : α) (hs : a.eval s = v) (hown : Own enc size w0 base e v l) (cs : Array Value) (hcy : cs.toList = enc y) (k : Nat) (hk : k = w0.heap.size) (hx : a.eval x = .slice (some ⟨k, 0, none⟩) 1 1) (hcs : cs.size = size)
    (h1 : ∀ u ∈ cs.toList, u.oneCell' = true) (h63 : l.length + 1 ≤ 1000000) (hby2 : bytes ≤ 1000) (hbase : base ≤ w0.heap.size)
    (h : ∀ v' w', Own enc size w' base e v' (l ++ [y]) → Below base w0 w' → wpList P ops Q rest (a.put o.dst v') w') : wpList P ops Q (o :: rest) a (w0.alloc (.cells cs e)) := by
  subst hk
  have hb2 : (l.length + 1) * bytes ≤ 140737488355328 := Nat.le_trans (Nat.mul_le_mul h63 hby2) (by decide)
  refine wpList_append_own _ hgd s x t ho base e i z size bytes ht hi hz hsize hby hzs hsz v l.length (l.flatMap enc) hs (World.ownsRow.alloc hown _) ⟨w0.heap.size, 0, none⟩ 1 1 cs.toList hx (by simp [hcs])
    ?_ h1 (by unfold maxLen; omega) hb2 (by simp; omega) ?_
  · intro j u hu
    rw [Go.WideShapes.add_plain, cell_of_row _ _ _ cs e (0, 0) (heap_alloc_new w0 _)]
    simpa using hu
  · intro v' w' h2 h3 _
    refine h v' w' ?_ ?_
    · show w'.ownsRow base e size v' (l ++ [y]).length ((l ++ [y]).flatMap enc)
      rw [List.flatMap_append, List.length_append]
      simpa [hcy] using h2
    · have hb : Below base w0 (w0.alloc (.cells cs e)) := (Below.refl _ _).alloc hbase _
      exact hb.grown h3 (by simp; omega) fun k hk => (World.ownsRow.lt hown k hk).1
end Go.Proofs.Ytcgnalpcbcpmkaa
/- The walk of the document's Go: it tells what goR tells. -/
namespace Go.Proofs.Ytcgnalpcbcpmkaa
open Go.RowKit

theorem lands_no_any (A A' : Option Addr) (c c' : Nat) (g : GraphD) (x : EdgeD) (i t : Int) (w : World) (hG : GraphAt w A c A' c' g) (hV : Valid g) (hi0 : 0 ≤ i) (hix : g.edges[i.toNat]? = some x) (ht : I64 t) (h : arrive g x t = none) :
    Calls Try.prog 95 #[gV A c A' c' g, .int .i64 i, .int .i64 t] w fun e w' => e = .returned (.tuple #[.int .i64 0, .int .i64 0, .bool false]) ∧ Below w.heap.size w w' :=
  (lands_any A A' c c' g x i t w hG hV hi0 hix ht).mono fun e w' ⟨he, hb⟩ => ⟨by rw [he, h]; rfl, hb⟩
theorem lands_yes_any (A A' : Option Addr) (c c' : Nat) (g : GraphD) (x : EdgeD) (i t : Int) (lg : LegD) (to : Int) (w : World) (hG : GraphAt w A c A' c' g) (hV : Valid g) (hi0 : 0 ≤ i) (hix : g.edges[i.toNat]? = some x) (ht : I64 t) (h : arrive g x t = some (lg, to)) :
    Calls Try.prog 95 #[gV A c A' c' g, .int .i64 i, .int .i64 t] w fun e w' => e = .returned (.tuple #[.int .i64 to, .int .i64 lg.cost, .bool true]) ∧ Below w.heap.size w w' :=
  (lands_any A A' c c' g x i t w hG hV hi0 hix ht).mono fun e w' ⟨he, hb⟩ => ⟨by rw [he, h]; rfl, hb⟩

/-- What the loop knows: where one is (ok), or that the list is no journey. -/
def GoInv (g : GraphD) (v t : Int) (l : List HopD) (n : Nat) (x y z : Int) (ok : Bool) : Prop :=
  (ok = true → aliveB g v t = true ∧ 0 ≤ z ∧ z ≤ 1000 * n ∧ goL g x y z (l.drop n) = goL g v t 0 l) ∧ (ok = false → goR g v t l = (0, 0, 0, 5))

set_option maxRecDepth 100000 in
set_option maxHeartbeats 2000000 in
theorem refGo_any (A A' Ah : Option Addr) (c c' ch : Nat) (g : GraphD) (v t : Int) (l : List HopD) (w : World) (hG : GraphAt w A c A' c' g) (hH : SlAt RHop 2 w Ah l) (hhl : l.length ≤ maxLen) :
    Calls Try.prog 37 #[gV A c A' c' g, .int .i64 v, .int .i64 t, .slice Ah l.length ch] w fun e w' => e = .returned (goV (goR g v t l)) ∧ Below w.heap.size w w' := by
  unfold maxLen at hhl
  by_cases h0 : placeErr g v t = 0
  case neg =>
    have H0 := Lib.hid (goR_place (l := l) h0)
    have hn := neq_of' h0
    clear h0
    go_enter Try.func37, Try.ntmps37
    go_wp2_with fail
    refine (place_any _ _ _ _ g v t _ (hG.ext (by go_grown))).mono ?_
    rintro e w1 ⟨rfl, hb1⟩
    have hb2 : Below w.heap.size w w1 := ext_trans (by go_grown) hb1
    go_wp2_with fail
    refine bodyPost_ret (results_tmp4 rfl _ _ _) rfl ?_
    exact ⟨by rw [H0.out]; rfl, hb2⟩
  obtain ⟨hV, hv, ht⟩ := place_of h0
  obtain ⟨hv0, hv1⟩ := hv
  obtain ⟨ht0, ht1⟩ := ht
  have hh := hV.h1
  have hne := hV.ne
  by_cases h500 : 500 < l.length
  · have H0 := Lib.hid (goR_large h0 h500)
    go_enter Try.func37, Try.ntmps37
    go_wp2_with fail
    refine (place_any _ _ _ _ g v t _ (hG.ext (by go_grown))).mono ?_
    rintro e w1 ⟨rfl, hb1⟩
    have hb2 : Below w.heap.size w w1 := ext_trans (by go_grown) hb1
    go_wp2_with fail
    refine bodyPost_ret (results_tmp4 rfl _ _ _) rfl ?_
    exact ⟨by rw [H0.out]; rfl, hb2⟩
  have HD := Lib.hid (fun hal => goR_dead h0 h500 hal)
  have HN := Lib.hid (fun hal h4 => goR_none h0 h500 hal h4)
  have HS := Lib.hid (fun a b c hal h4 => goR_some (a := a) (b := b) (c := c) h0 h500 hal h4)
  obtain ⟨bh, oh, hHp⟩ := hH
  go_enter Try.func37, Try.ntmps37
  go_wp2_with fail
  refine (place_any _ _ _ _ g v t _ (hG.ext (by go_grown))).mono ?_
  rintro e w1 ⟨rfl, hb1⟩
  obtain ⟨B0, c1, c2, c3⟩ := (Blk.new w 28 (gC A c A' c' g)).go hb1
  have hb2 : Below w.heap.size w w1 := ext_trans (by go_grown) hb1
  go_wp2_with fail
  refine (refAlive_any _ _ _ _ g v t _ (hG.ext hb2) hv0 hv1).mono ?_
  rintro e w2 ⟨rfl, hb3⟩
  have hb4 := ext_trans hb2 hb3
  have B0' := B0.ext hb3
  go_wp2_with fail
  clear hb3 B0 c1 c2 c3 hb1 h0
  go_loopw [8, 9, 10, 13, 14] (fun a b d o k wr => ∃ (n : Nat) (x y z : Int) (ok : Bool), n ≤ l.length ∧ k = .int .i64 n ∧ a = .int .i64 x ∧ b = .int .i64 y ∧ d = .int .i64 z ∧ o = .bool ok ∧ GoInv g v t l n x y z ok ∧ Below w.heap.size w wr ∧ Blk wr w.heap.size 28 (gC A c A' c' g))
    (fun _ _ _ _ k _ => l.length - (intOf k).toNat)
  case atStart => exact ⟨0, v, t, 0, aliveB g v t, Nat.zero_le _, rfl, rfl, rfl, rfl, rfl, ⟨fun h => ⟨h, by omega, by omega, rfl⟩, fun h => HD.out h⟩, hb4, B0'⟩
  case round =>
    clear hb4 B0' hb2
    obtain ⟨n, x, y, z, ok, hn, rfl, rfl, rfl, rfl, rfl, hI, hb, B0⟩ := hrel
    obtain ⟨b1, b2, b3⟩ := B0.facts
    cases ok
    case false =>
      have H9 := Lib.hid (hI.2 rfl)
      clear hI
      by_cases hlt : n < l.length
      all_goals
        go_wp2_with fail
        refine bodyPost_ret (results_tmp4 rfl _ _ _) rfl ?_
        exact ⟨by rw [H9.out]; rfl, hb⟩
    obtain ⟨hal, hz0, hz1, hI2⟩ := hI.1 rfl
    have HAL := Lib.hid hal
    have HI := Lib.hid hI2
    clear hI hI2 hal
    by_cases hlt : n < l.length
    case neg =>
      have hfin := Lib.hid (HS.out x y z HAL.out (HI.out.symm.trans (by rw [drop_end (by omega)]; rfl)))
      go_wp2_with fail
      refine bodyPost_ret (results_tmp4 rfl _ _ _) rfl ?_
      exact ⟨by rw [hfin.out]; rfl, hb⟩
    obtain ⟨hp, hh'⟩ := get_lt hlt
    obtain ⟨rfl, hbh, ⟨⟨x0, x1⟩, hw0, hw1⟩⟩ := hHp n hp hh'
    have y0 := x0.now hb
    have y1 := x1.now hb
    have hd := drop_cons hh'
    have HI2 : Hid (goL g x y z (hp :: l.drop (n + 1)) = goL g v t 0 l) := by rw [← hd]; exact HI
    have HF := Lib.hid (fun hx => HI2.out.symm.trans (goL_none (c := z) (r := l.drop (n + 1)) hx))
    clear hHp hd hh' HI x0 x1
    cases hin : inB hp.edge 0 ((g.edges.length : Int) - 1)
    case false =>
      have H9 := Lib.hid (HN.out HAL.out (HF.out (hopTo_far hin)))
      go_wp2_with (go_at_call 46; refine (in_any _ _ _ _).mono ?_; rintro e w' ⟨rfl, rfl⟩)
      refine bodyPost_ret (results_tmp4 rfl _ _ _) rfl ?_
      exact ⟨by rw [H9.out]; rfl, ext_alloc hb _⟩
    have hin2 := inB_iff.1 hin
    obtain ⟨he0, he1⟩ := hin2
    obtain ⟨q, hq⟩ := get_lt (show hp.edge.toNat < g.edges.length by omega)
    have HNOT := Lib.hid (fun h2 => HF.out (hopTo_not (v := x) (t := y) hin hq h2))
    have HNONE := Lib.hid (fun h3 => HF.out (hopTo_none (v := x) (t := y) hin hq h3))
    have HSOME := Lib.hid (fun to lg h2 h3 => HI2.out.symm.trans (goL_some (hopTo_some (v := x) (t := y) (to := to) (l := lg) hin hq h2 h3)))
    have HQ := Lib.hid hq
    have hqe : EdgeOk g q := hV.edges q (List.mem_of_getElem? hq)
    have hGr := hG.ext hb
    obtain ⟨be, oe, hE⟩ := hG.edges
    obtain ⟨rfl, hbe, ⟨⟨z0, z1, L, cl, z2, hl1, hl2, hL⟩, _⟩⟩ := hE _ q hq
    have k0 := z0.now hb
    have k1 := z1.now hb
    have hbe' := Nat.lt_of_lt_of_le hbe hb.size
    have kz : hp.edge ≤ 0 → wr.cell? ⟨be, oe, none⟩ = some (.int .i64 q.a) := fun hz => by
      have e : hp.edge.toNat = 0 := by omega
      rw [e] at k0
      simpa using k0
    clear hE hq z0 z1 z2
    by_cases hqa : q.a = x
    case neg =>
      have H9 := Lib.hid (HN.out HAL.out (HNOT.out fun hx => hqa hx.1))
      go_wp2_with (go_at_call 46; refine (in_any _ _ _ _).mono ?_; rintro e w' ⟨rfl, rfl⟩)
      all_goals refine bodyPost_ret (results_tmp4 rfl _ _ _) rfl ?_
      all_goals exact ⟨by rw [H9.out]; rfl, ext_alloc hb _⟩
    subst hqa
    by_cases hqd : y ≤ hp.depart
    case neg =>
      have H9 := Lib.hid (HN.out HAL.out (HNOT.out fun hx => hqd hx.2))
      have hqF : decide (y ≤ hp.depart) = false := by simp; omega
      go_wp2_with (go_at_call 46; refine (in_any _ _ _ _).mono ?_; rintro e w' ⟨rfl, rfl⟩)
      all_goals refine bodyPost_ret (results_tmp4 rfl _ _ _) rfl ?_
      all_goals exact ⟨by rw [H9.out]; rfl, ext_alloc hb _⟩
    have hqT : decide (y ≤ hp.depart) = true := by simp; omega
    have hbq : Below w.heap.size w (wr.alloc (Obj.cells #[Value.int IntKind.i64 hp.edge, Value.int IntKind.i64 hp.depart] 46)) := ext_alloc hb _
    cases har : arrive g q hp.depart with
    | none =>
      have HAR := Lib.hid har
      have H9 := Lib.hid (HN.out HAL.out (HNONE.out har))
      clear har
      go_wp2_with (go_at_call 46; refine (in_any _ _ _ _).mono ?_; rintro e w' ⟨rfl, rfl⟩)
      all_goals
        refine (lands_no_any _ _ _ _ g q hp.edge hp.depart _ (hG.ext hbq) hV he0 HQ.out hw1 HAR.out).mono ?_
        rintro e w5 ⟨rfl, hb5⟩
        obtain ⟨B1, f1, f2, f3⟩ := (B0.alloc _).go hb5
        obtain ⟨B2, f4, f5, f6⟩ := (Blk.new wr 46 _).go hb5
        have k1' := cell_keep (ext_trans (ext_alloc (Below.refl _ _) _) hb5) k1
        go_wp2_with fail
        go_roundw
        case rel => exact ⟨n + 1, q.b, 0, z, false, by omega, by go_num, rfl, rfl, by go_num, rfl, ⟨fun h => (by cases h), fun _ => H9.out⟩, ext_trans hbq hb5, B1⟩
        case measure => simp [intOf]; omega
    | some p =>
      obtain ⟨lg, to⟩ := p
      have HAR := Lib.hid har
      have H9 := Lib.hid (HSOME.out to lg ⟨rfl, hqd⟩ har)
      have ha := arrive_some har
      have hlg := hqe.legs lg ha.1
      have c0 : 0 ≤ lg.cost := by omega
      have c1 : lg.cost ≤ 1000 := by omega
      clear har ha hlg
      go_wp2_with (go_at_call 46; refine (in_any _ _ _ _).mono ?_; rintro e w' ⟨rfl, rfl⟩)
      all_goals
        refine (lands_yes_any _ _ _ _ g q hp.edge hp.depart lg to _ (hG.ext hbq) hV he0 HQ.out hw1 HAR.out).mono ?_
        rintro e w5 ⟨rfl, hb5⟩
        obtain ⟨B1, f1, f2, f3⟩ := (B0.alloc _).go hb5
        obtain ⟨B2, f4, f5, f6⟩ := (Blk.new wr 46 _).go hb5
        have k1' := cell_keep (ext_trans (ext_alloc (Below.refl _ _) _) hb5) k1
        go_wp2_with fail
        go_roundw
        case rel => exact ⟨n + 1, q.b, to, z + lg.cost, true, by omega, by go_num, rfl, rfl, rfl, rfl, ⟨fun _ => ⟨HAL.out, by omega, by omega, H9.out.symm⟩, fun h => (by cases h)⟩, ext_trans hbq hb5, B1⟩
        case measure => simp [intOf]; omega
end Go.Proofs.Ytcgnalpcbcpmkaa
/- The walk of journey.Go: it tells what goR tells. -/
namespace Go.Proofs.Ytcgnalpcbcpmkaa
open Go.RowKit

theorem arrive_no_any (A A' L : Option Addr) (c c' cl : Nat) (g : GraphD) (x : EdgeD) (t : Int) (w : World) (hG : GraphAt w A c A' c' g) (hV : Valid g) (hx : EdgeOk g x)
    (hL : SlAt RLeg 4 w L x.legs) (hl : x.legs.length ≤ maxLen) (ht : I64 t) (h : arrive g x t = none) :
    Calls Try.prog 94 #[gV A c A' c' g, edgeV L cl x, .int .i64 t] w fun e w' => e = .returned (.tuple #[legV ⟨0, 0, 0, 0⟩, .int .i64 0, .bool false]) ∧ Below w.heap.size w w' :=
  (arrive_any A A' L c c' cl g x t w hG hV hx hL hl ht).mono fun e w' ⟨he, hb⟩ => ⟨by rw [he, h]; rfl, hb⟩
theorem arrive_yes_any (A A' L : Option Addr) (c c' cl : Nat) (g : GraphD) (x : EdgeD) (t : Int) (lg : LegD) (to : Int) (w : World) (hG : GraphAt w A c A' c' g) (hV : Valid g) (hx : EdgeOk g x)
    (hL : SlAt RLeg 4 w L x.legs) (hl : x.legs.length ≤ maxLen) (ht : I64 t) (h : arrive g x t = some (lg, to)) :
    Calls Try.prog 94 #[gV A c A' c' g, edgeV L cl x, .int .i64 t] w fun e w' => e = .returned (.tuple #[legV lg, .int .i64 to, .bool true]) ∧ Below w.heap.size w w' :=
  (arrive_any A A' L c c' cl g x t w hG hV hx hL hl ht).mono fun e w' ⟨he, hb⟩ => ⟨by rw [he, h]; rfl, hb⟩

set_option maxRecDepth 100000 in
set_option maxHeartbeats 2000000 in
theorem go_early (A A' Ah : Option Addr) (c c' ch : Nat) (g : GraphD) (v t : Int) (l : List HopD) (w : World) (hG : GraphAt w A c A' c' g) (_hH : SlAt RHop 2 w Ah l) (hhl : l.length ≤ maxLen)
    (hmain : placeErr g v t = 0 → ¬ 500 < l.length → aliveB g v t = true → Calls Try.prog 36 #[gV A c A' c' g, .int .i64 v, .int .i64 t, .slice Ah l.length ch] w fun e w' => e = .returned (goV (goR g v t l)) ∧ Below w.heap.size w w') :
    Calls Try.prog 36 #[gV A c A' c' g, .int .i64 v, .int .i64 t, .slice Ah l.length ch] w fun e w' => e = .returned (goV (goR g v t l)) ∧ Below w.heap.size w w' := by
  unfold maxLen at hhl
  by_cases h0 : placeErr g v t = 0
  case neg =>
    have H0 := Lib.hid (goR_place (l := l) h0)
    have hn := neq_of' h0
    clear h0
    go_enter Try.func36, Try.ntmps36
    go_wp2_with fail
    refine (checkPlace_any _ _ _ _ g v t _ (hG.ext (by go_grown))).mono ?_
    rintro e w1 ⟨rfl, hb1⟩
    have hb2 : Below w.heap.size w w1 := ext_trans (by go_grown) hb1
    go_wp2_with fail
    refine bodyPost_ret (results_tmp4 rfl _ _ _) rfl ?_
    exact ⟨by rw [H0.out]; rfl, hb2⟩
  obtain ⟨hV, hv, ht⟩ := place_of h0
  obtain ⟨hv0, hv1⟩ := hv
  obtain ⟨ht0, ht1⟩ := ht
  have hh := hV.h1
  have hne := hV.ne
  by_cases h500 : 500 < l.length
  · have H0 := Lib.hid (goR_large h0 h500)
    go_enter Try.func36, Try.ntmps36
    go_wp2_with fail
    refine (checkPlace_any _ _ _ _ g v t _ (hG.ext (by go_grown))).mono ?_
    rintro e w1 ⟨rfl, hb1⟩
    have hb2 : Below w.heap.size w w1 := ext_trans (by go_grown) hb1
    go_wp2_with fail
    refine bodyPost_ret (results_tmp4 rfl _ _ _) rfl ?_
    exact ⟨by rw [H0.out]; rfl, hb2⟩
  cases hal : aliveB g v t
  case false =>
    have H0 := Lib.hid (goR_dead h0 h500 hal)
    go_enter Try.func36, Try.ntmps36
    go_wp2_with fail
    refine (checkPlace_any _ _ _ _ g v t _ (hG.ext (by go_grown))).mono ?_
    rintro e w1 ⟨rfl, hb1⟩
    obtain ⟨B0, c1, c2, c3⟩ := (Blk.new w 28 (gC A c A' c' g)).go hb1
    have hb2 : Below w.heap.size w w1 := ext_trans (by go_grown) hb1
    go_wp2_with fail
    refine (alive_any _ _ _ _ g v t _ (hG.ext hb2) hv0 hv1).mono ?_
    rintro e w2 ⟨rfl, hb3⟩
    go_wp2_with fail
    refine bodyPost_ret (results_tmp4 rfl _ _ _) rfl ?_
    exact ⟨by rw [H0.out]; rfl, ext_trans hb2 hb3⟩
  exact hmain h0 h500 hal
end Go.Proofs.Ytcgnalpcbcpmkaa
/- The walks of journey.Out and of the document's Outs: they tell the same list. -/
namespace Go.Proofs.Ytcgnalpcbcpmkaa
open Go.RowKit

theorem info_hop : (Try.prog.info? 46).map (fun i => (i.zero, i.size, i.bytes)) = some (some (.agg #[.int .i64 0, .int .i64 0]), 2, 16) := by kernel_rfl
theorem hop_one {a b : Int} : ∀ u ∈ (#[.int .i64 a, .int .i64 b] : Array Value).toList, u.oneCell' = true := by simp [Value.oneCell']
theorem hopEnc_len (x : HopD) : (hopEnc x).length = 2 := rfl
/-- A list of hops and an error are told. -/
def HopsOut (l : List HopD) (er : Int) (w : World) (e : Ending) (w' : World) : Prop := ∃ A c, e = .returned (.tuple #[.slice A l.length c, .int .i64 er]) ∧ SlAt RHop 2 w' A l ∧ l.length ≤ maxLen ∧ Below w.heap.size w w'
def HopsOut1 (l : List HopD) (w : World) (e : Ending) (w' : World) : Prop := ∃ A c, e = .returned (.slice A l.length c) ∧ SlAt RHop 2 w' A l ∧ l.length ≤ maxLen ∧ Below w.heap.size w w'
theorem own_hops {w : World} {base : Nat} {v : Value} {l : List HopD} (h : Own hopEnc 2 w base 46 v l) (hi : ∀ x, x ∈ l → I64 x.edge ∧ I64 x.depart) : ∃ A c, v = .slice A l.length c ∧ SlAt RHop 2 w A l :=
  h.slAt hopEnc_len fun x hx b o hc => ⟨⟨by simpa using hc 0 _ rfl, by simpa using hc 1 _ rfl⟩, hi x hx⟩
theorem outs_small {g : GraphD} {v t : Int} (hV : Valid g) (h0 : 0 ≤ t) (h1 : t < g.h) : (outs g v t).length ≤ 3000 ∧ ∀ x, x ∈ outs g v t → I64 x.edge ∧ I64 x.depart := by
  have hh := hV.h1; have hne := hV.ne
  unfold outs
  split
  · have hl := outsL_len (g := g) (v := v) (g.h - t).toNat t
    have hm : (g.h - t).toNat * g.edges.length ≤ 100 * 30 := Nat.mul_le_mul (by omega) hne
    refine ⟨by omega, fun x hx => ?_⟩
    obtain ⟨h2, h3, h4⟩ := (outsL_mem _ _).1 hx
    obtain ⟨_, k, y, hk, he, _⟩ := (outsAt_mem _ _).1 h4
    have := lt_of_get hk
    exact ⟨⟨by omega, by omega⟩, by unfold I64; omega⟩
  · exact ⟨by simp, by simp⟩

set_option maxRecDepth 100000 in
set_option maxHeartbeats 2000000 in
theorem refOuts_any (A A' : Option Addr) (c c' : Nat) (g : GraphD) (v t : Int) (w : World) (hG : GraphAt w A c A' c' g) (h0 : placeErr g v t = 0) :
    Calls Try.prog 40 #[gV A c A' c' g, .int .i64 v, .int .i64 t] w (HopsOut1 (outs g v t) w) := by
  obtain ⟨hV, hv, ht⟩ := place_of h0
  obtain ⟨hv0, hv1⟩ := hv
  obtain ⟨ht0, ht1⟩ := ht
  have hh := hV.h1
  have hne := hV.ne
  have HSM := Lib.hid (outs_small (v := v) hV ht0 ht1)
  obtain ⟨i0, hi, hz0, hz1, hz2⟩ := info_parts info_hop
  cases hal : aliveB g v t
  case false =>
    have HO : Hid (outs g v t = []) := Lib.hid (by simp [outs, hal])
    go_enter Try.func40, Try.ntmps40
    go_wp2_with fail
    refine (refAlive_any _ _ _ _ g v t _ (hG.ext (by go_grown)) hv0 hv1).mono ?_
    rintro e w1 ⟨rfl, hb1⟩
    have hb2 : Below w.heap.size w w1 := ext_trans (by go_grown) hb1
    go_wp2_with fail
    go_ret
    rw [HO.out]
    exact ⟨none, 0, rfl, SlAt.nil, by simp, hb2⟩
  have HO : Hid (outs g v t = outsL g v (g.h - t).toNat t) := Lib.hid (by simp [outs, hal])
  go_enter Try.func40, Try.ntmps40
  go_wp2_with fail
  refine (refAlive_any _ _ _ _ g v t _ (hG.ext (by go_grown)) hv0 hv1).mono ?_
  rintro e w1 ⟨rfl, hb1⟩
  obtain ⟨B0, c1, c2, c3⟩ := (Blk.new w 28 (gC A c A' c' g)).go hb1
  have hb2 : Below (w.heap.size + 1) (w.alloc (.cells (gC A c A' c' g) 28)) w1 := by simpa using hb1
  go_wp2_with fail
  clear hal c1 c2 c3 hb1
  go_loopw [7, 8] (fun o d wr => ∃ (n : Nat) (y : Int) (acc : List HopD), n ≤ 100 ∧ d = .int .i64 y ∧ y + n = g.h ∧ 0 ≤ y ∧ Hid (acc ++ outsL g v n y = outs g v t) ∧ Own hopEnc 2 wr (w.heap.size + 1) 46 o acc ∧ Below (w.heap.size + 1) (w.alloc (.cells (gC A c A' c' g) 28)) wr)
    (fun _ d _ => (g.h - intOf d).toNat)
  case atStart => exact ⟨(g.h - t).toNat, t, [], by omega, rfl, by omega, ht0, Lib.hid (by rw [HO.out]; rfl), Own.nil, hb2⟩
  case round =>
    clear hb2 B0
    obtain ⟨n, y, acc, hn, rfl, hny, hy0, HI, hown, hb⟩ := hrel
    have hbw : Below w.heap.size w wr := (Below.refl _ _).alloc (Nat.le_refl _) _ |>.trans (hb.mono (by omega))
    have B0 := (Blk.new w 28 (gC A c A' c' g)).below hb (by omega)
    obtain ⟨b1, b2, b3⟩ := B0.facts
    by_cases hlt : y < g.h
    case neg =>
      have hE : Hid (acc = outs g v t) := Lib.hid (by
        obtain rfl : n = 0 := by omega
        simpa [outsL] using HI.out)
      go_wp2_with fail
      go_ret
      obtain ⟨Ao, co, rfl, hS⟩ := own_hops hown (by rw [hE.out]; exact HSM.out.2)
      rw [hE.out] at hS ⊢
      exact ⟨Ao, co, rfl, hS, Nat.le_trans HSM.out.1 (by unfold maxLen; omega), hbw⟩
    obtain ⟨m, rfl⟩ : ∃ m, n = m + 1 := ⟨n - 1, by omega⟩
    have hGr := hG.ext hbw
    obtain ⟨wo, rfl⟩ : ∃ wo : World, wo = wr := ⟨_, rfl⟩
    go_wp2_with fail
    go_loopw [7, 9] (fun o k wr => ∃ (j : Nat) (acc2 : List HopD), j ≤ g.edges.length ∧ k = .int .i64 j ∧ Hid (acc2 ++ (outsAt g v y j (g.edges.drop j) ++ outsL g v m (y + 1)) = outs g v t) ∧ Own hopEnc 2 wr (w.heap.size + 1) 46 o acc2 ∧ Below (w.heap.size + 1) (w.alloc (.cells (gC A c A' c' g) 28)) wr)
      (fun _ k _ => g.edges.length - (intOf k).toNat)
    case atStart => exact ⟨0, acc, Nat.zero_le _, rfl, Lib.hid (by rw [← HI.out, outsL]; rfl), hown, hb⟩
    case round =>
      clear hown HI hb hbw B0 b1 b2 b3 hGr
      obtain ⟨j, acc2, hj, rfl, HI, hown, hb⟩ := hrel
      have hbw : Below w.heap.size w wr := (Below.refl _ _).alloc (Nat.le_refl _) _ |>.trans (hb.mono (by omega))
      have B0 := (Blk.new w 28 (gC A c A' c' g)).below hb (by omega)
      obtain ⟨b1, b2, b3⟩ := B0.facts
      have hzw : w.heap.size + 1 ≤ wr.heap.size := by have := hb.size; simpa using this
      have hacc : acc2.length ≤ 3000 := by
        have h1 := HSM.out.1
        rw [← HI.out, List.length_append] at h1
        omega
      by_cases hltj : j < g.edges.length
      case neg =>
        go_wp2_with fail
        go_roundw
        case rel =>
          refine ⟨m, y + 1, acc2, by omega, by go_num, by omega, by omega, Lib.hid ?_, hown, hb⟩
          rw [← HI.out, drop_end (by omega)]
          rfl
        case measure => simp [intOf]; omega
      obtain ⟨x, hx⟩ := get_lt hltj
      have HX := Lib.hid hx
      have hxe : EdgeOk g x := hV.edges x (List.mem_of_getElem? hx)
      obtain ⟨be, oe, hE⟩ := hG.edges
      obtain ⟨rfl, hbe, ⟨⟨x0, x1, L, cl, x2, hl1, hl2, hL⟩, _⟩⟩ := hE _ x hx
      have k0 := x0.now hbw
      have hd := drop_cons hx
      have HI2 : Hid (acc2 ++ (outsAt g v y j (x :: g.edges.drop (j + 1)) ++ outsL g v m (y + 1)) = outs g v t) := by rw [← hd]; exact HI
      have hyI : I64 y := ⟨by omega, by omega⟩
      clear hE hx hd HI x1 x2
      have hjI : 0 ≤ (j : Int) := by omega
      cases har : arrive g x y with
      | none =>
        have HAR := Lib.hid har
        have HB := Lib.hid (leavesB_none (v := v) har)
        clear har
        go_wp2_with fail
        refine (lands_no_any _ _ _ _ g x j y _ (hG.ext hbw) hV hjI (by simpa using HX.out) hyI HAR.out).mono ?_
        rintro e w5 ⟨rfl, hb5⟩
        go_wp2_with fail
        go_roundw
        case rel => exact ⟨j + 1, acc2, by omega, by go_num, Lib.hid (by rw [← HI2.out, outsAt_no HB.out]), hown.ext hb5, hb.trans (hb5.mono hzw)⟩
        case measure => simp [intOf]; omega
      | some p =>
        obtain ⟨lg, to⟩ := p
        have HAR := Lib.hid har
        by_cases hxa : x.a = v
        case neg =>
          have HB := Lib.hid (leavesB_other (g := g) (d := y) hxa)
          clear har
          go_wp2_with fail
          refine (lands_yes_any _ _ _ _ g x j y lg to _ (hG.ext hbw) hV hjI (by simpa using HX.out) hyI HAR.out).mono ?_
          rintro e w5 ⟨rfl, hb5⟩
          obtain ⟨B1, f1, f2, f3⟩ := B0.go hb5
          have k0' := x0.now (ext_trans hbw hb5)
          go_wp2_with fail
          go_roundw
          case rel => exact ⟨j + 1, acc2, by omega, by go_num, Lib.hid (by rw [← HI2.out, outsAt_no HB.out]), hown.ext hb5, hb.trans (hb5.mono hzw)⟩
          case measure => simp [intOf]; omega
        case pos =>
          have HB := Lib.hid (leavesB_some har hxa)
          clear har
          have hxe2 : (x.a == v) = true := by simp [hxa]
          have HXA := Lib.hid hxa
          clear hxa
          go_wp2_with fail
          refine (lands_yes_any _ _ _ _ g x j y lg to _ (hG.ext hbw) hV hjI (by simpa using HX.out) hyI HAR.out).mono ?_
          rintro e w5 ⟨rfl, hb5⟩
          obtain ⟨B1, f1, f2, f3⟩ := B0.go hb5
          have k0' := x0.now (ext_trans hbw hb5)
          have hown5 := hown.ext hb5
          have hz5 := hb5.size
          go_wp2_with (at_builtin; refine wpList_append_el (enc := hopEnc) rfl (.tmp 51) (.tmp 55) 36 rfl (w.heap.size + 1) 46 i0 _ 2 16 Try.underlying36 hi hz0 hz1 hz2 rfl (by decide) _ acc2 ⟨j, y⟩ rfl hown5 _ rfl _ rfl rfl rfl hop_one (by omega) (by decide) (by omega) ?_; intro v' w6 hown6 hb6)
          go_roundw
          case rel => exact ⟨j + 1, acc2 ++ [⟨j, y⟩], by omega, by go_num, Lib.hid (by rw [← HI2.out, outsAt_yes HB.out]; simp), hown6, (hb.trans (hb5.mono hzw)).trans hb6⟩
          case measure => simp [intOf]; omega
end Go.Proofs.Ytcgnalpcbcpmkaa
