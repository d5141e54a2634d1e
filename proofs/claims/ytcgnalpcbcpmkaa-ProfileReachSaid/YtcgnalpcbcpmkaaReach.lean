/- The walk of profile.Reach: rows of marks. -/
import Derived.Test.YtcgnalpcbcpmkaaReachSpec
import Derived.Test.YtcgnalpcbcpmkaaEarly0
namespace Go.Proofs.Ytcgnalpcbcpmkaa
open Go.RowKit

def boolEnc (x : Bool) : List Value := [.bool x]
/-- A row's place: its address and capacity; all rows are of one length. -/
def rowEnc (n : Nat) (it : Option Addr × Nat) : List Value := [.slice it.1 n it.2]
def RItem (n : Nat) (w : World) (b o : Nat) (it : Option Addr × Nat) : Prop := cellIs w b o (.slice it.1 n it.2)
/-- At the address a block of marks begins with the row. -/
def BOwn (w : World) (A : Option Addr) (r : List Bool) : Prop := 0 < r.length → ∃ (g : Nat) (cs : Array Value), A = some ⟨g, 0, none⟩ ∧ Blk w g 4 cs ∧ ∀ (k : Nat) (x : Bool), r[k]? = some x → cs[k]? = some (Value.bool x)
def RowsAt (w : World) (items : List (Option Addr × Nat)) (rs : List (List Bool)) : Prop := items.length = rs.length ∧ ∀ (i : Nat) it r, items[i]? = some it → rs[i]? = some r → BOwn w it.1 r
section
variable {w w' : World} {A : Option Addr} {r : List Bool} {items : List (Option Addr × Nat)} {rs : List (List Bool)} {base : Nat} {v : Value}
theorem BOwn.keep (h : BOwn w A r) (hk : ∀ b cs, Blk w b 4 cs → Blk w' b 4 cs) : BOwn w' A r := fun h0 => by
  obtain ⟨g, cs, h1, h2, h3⟩ := h h0
  exact ⟨g, cs, h1, hk _ _ h2, h3⟩
theorem BOwn.slAt (h : BOwn w A r) : SlAt RBool 1 w A r := by
  rcases Nat.eq_zero_or_pos r.length with h0 | h0
  · rw [List.eq_nil_of_length_eq_zero h0]; exact SlAt.nil
  · obtain ⟨g, cs, rfl, hB, hc⟩ := h h0
    refine ⟨g, 0, fun i x hx => ⟨rfl, hB.lt, ?_⟩⟩
    unfold RBool cellIs
    have := hB.cell i
    rw [hc i x hx] at this
    simpa using this
theorem flat_bool (l : List Bool) : l.flatMap boolEnc = l.map Value.bool := by
  induction l with
  | nil => rfl
  | cons x l ih => rw [List.flatMap_cons, ih]; rfl
theorem Own.bown (h : Own boolEnc 1 w base 4 v r) : ∃ A c, v = .slice A r.length c ∧ BOwn w A r := by
  obtain ⟨A, c, rfl⟩ := h.form
  refine ⟨A, c, rfl, fun h0 => ?_⟩
  rcases h.2 with ⟨_, h1⟩ | ⟨g, cap, cur, hv, hg, hh, hnc, hcm, hcs, htake⟩
  · omega
  · injection hv with h1 h2 h3
    subst h1
    refine ⟨g, cur, rfl, hh, fun k x hx => ?_⟩
    have hk := lt_of_get hx
    rw [flat_bool] at htake
    have h4 : (cur.toList.take (r.length * 1))[k]? = some (.bool x) := by rw [htake]; simp [hx]
    rw [List.getElem?_take_of_lt (by omega)] at h4
    simpa using h4
theorem RowsAt.keep (h : RowsAt w items rs) (hk : ∀ b cs, Blk w b 4 cs → Blk w' b 4 cs) : RowsAt w' items rs := ⟨h.1, fun i it r h1 h2 => (h.2 i it r h1 h2).keep hk⟩
theorem RowsAt.ext (h : RowsAt w items rs) (hb : Below w.heap.size w w') : RowsAt w' items rs := h.keep fun _ _ hB => hB.ext hb
theorem RowsAt.nil : RowsAt w [] [] := ⟨rfl, fun i it r h => by simp at h⟩
theorem RowsAt.snoc (h : RowsAt w items rs) {c : Nat} (hr : BOwn w A r) : RowsAt w (items ++ [(A, c)]) (rs ++ [r]) := by
  refine ⟨by simp [h.1], fun i it q h1 h2 => ?_⟩
  by_cases hi : i < items.length
  · rw [List.getElem?_append_left hi] at h1
    rw [List.getElem?_append_left (by rw [← h.1]; exact hi)] at h2
    exact h.2 i it q h1 h2
  · have hl := lt_of_get h1
    simp only [List.length_append, List.length_cons, List.length_nil] at hl
    rw [List.getElem?_append_right (by omega), show i - items.length = 0 by omega] at h1
    rw [List.getElem?_append_right (by rw [← h.1]; omega), show i - rs.length = 0 by rw [← h.1]; omega] at h2
    have e1 : (A, c) = it := by simpa using h1
    have e2 : r = q := by simpa using h2
    rw [← e1, ← e2]
    exact hr
end
theorem info_bool2 : ∃ i, Try.prog.info? 4 = some i ∧ i.zero = some (.bool false) ∧ i.size = 1 ∧ i.bytes = 1 := by
  obtain ⟨i0, hi, hz0, hz1, hz2⟩ := info_parts info_bool
  exact ⟨i0, hi, hz0, hz1, hz2⟩
theorem info_row : (Try.prog.info? 48).map (fun i => (i.zero, i.size, i.bytes)) = some (some (.slice none 0 0), 1, 24) := by kernel_rfl
theorem info_row2 : ∃ i, Try.prog.info? 48 = some i ∧ i.zero = some (.slice none 0 0) ∧ i.size = 1 ∧ i.bytes = 24 := by
  obtain ⟨i0, hi, hzz⟩ := Option.map_eq_some_iff.1 info_row
  simp only [Prod.mk.injEq] at hzz
  exact ⟨i0, hi, hzz.1, hzz.2.1, hzz.2.2⟩
theorem own_items {n : Nat} {w : World} {base : Nat} {v : Value} {items : List (Option Addr × Nat)} (h : Own (rowEnc n) 1 w base 48 v items) : ∃ A c, v = .slice A items.length c ∧ SlAt (RItem n) 1 w A items :=
  Own.slAt (R := RItem n) (enc := rowEnc n) (fun _ => rfl) (fun x _ b o hc => by have := hc 0 _ rfl; simpa [RItem] using this) h
theorem bool_one {x : Bool} : ∀ u ∈ (#[.bool x] : Array Value).toList, u.oneCell' = true := by simp [Value.oneCell']
theorem row_one {A : Option Addr} {n c : Nat} : ∀ u ∈ (#[.slice A n c] : Array Value).toList, u.oneCell' = true := by simp [Value.oneCell']
def ReachOut (g : GraphD) (s e : Int) (w : World) (en : Ending) (w' : World) : Prop := ∃ A c items rs, en = .returned (.tuple #[.slice A items.length c, .int .i64 (reachErr g s e)]) ∧
  SlAt (RItem g.lives.length) 1 w' A items ∧ RowsAt w' items rs ∧ Hid (reachErr g s e = 0 → RowsOk g s e g.lives.length rs) ∧ Hid (¬ reachErr g s e = 0 → items = []) ∧ items.length ≤ maxLen ∧ Below w.heap.size w w'
theorem reach_bad {g : GraphD} {s e : Int} {w w' : World} (h : ¬ reachErr g s e = 0) (hb : Below w.heap.size w w') : ReachOut g s e w (.returned (.tuple #[.slice none 0 0, .int .i64 (reachErr g s e)])) w' :=
  ⟨none, 0, [], [], rfl, SlAt.nil, RowsAt.nil, Lib.hid (fun h0 => absurd h0 h), Lib.hid (fun _ => rfl), by simp, hb⟩
theorem mark_take {e : Int} {l : List Int} {j : Nat} (h : j < l.length) : (markRow e l).take (j + 1) = (markRow e l).take j ++ [decide (gi l j ≤ e)] := by
  rw [List.take_add_one, markRow_get h]; rfl

set_option maxRecDepth 100000 in
set_option maxHeartbeats 4000000 in
theorem reach_any (A A' : Option Addr) (c c' : Nat) (g : GraphD) (s e : Int) (w : World) (hG : GraphAt w A c A' c' g) :
    Calls Try.prog 79 #[gV A c A' c' g, .int .i64 s, .int .i64 e] w (ReachOut g s e w) := by
  have m1 : g.lives.length ≤ 9223372036854775807 := Nat.le_trans hG.lc hG.cm
  by_cases h0 : graphErr g = 0
  case neg =>
    have HE : Hid (reachErr g s e = graphErr g) := Lib.hid (by unfold reachErr; rw [if_neg h0])
    have HB : Hid (¬ reachErr g s e = 0) := Lib.hid (by rw [HE.out]; exact h0)
    have hn : (graphErr g != 0) = true := by simp [h0]
    clear h0
    go_enter Try.func79, Try.ntmps79
    go_wp2_with fail
    refine (check_any _ _ _ _ g _ (hG.ext (by go_grown))).mono ?_
    rintro e w1 ⟨rfl, hb1⟩
    go_wp2_with fail
    go_ret2
    rw [← HE.out]
    exact reach_bad HB.out (ext_trans (by go_grown) hb1)
  have H0 := Lib.hid h0
  clear h0
  by_cases hr : (0 ≤ s ∧ s < g.h) ∧ 0 ≤ e ∧ e < g.h
  case neg =>
    have HE : Hid (reachErr g s e = 1) := Lib.hid (by unfold reachErr; rw [if_pos H0.out, if_neg hr])
    have HB : Hid (¬ reachErr g s e = 0) := Lib.hid (by rw [HE.out]; decide)
    by_cases a1 : s < 0
    · have hd1 : decide (s < 0) = true := by simpa using a1
      clear a1 hr
      go_enter Try.func79, Try.ntmps79
      go_wp2_with fail
      refine (check_any _ _ _ _ g _ (hG.ext (by go_grown))).mono ?_
      rw [H0.out]
      rintro e w1 ⟨rfl, hb1⟩
      obtain ⟨B0, c1, c2, c3⟩ := (Blk.new w 28 (gC A c A' c' g)).go hb1
      go_wp2_with fail
      go_ret2
      have := reach_bad (w := w) (w' := w1) HB.out (ext_trans (by go_grown) hb1)
      rw [HE.out] at this
      exact this
    have hd1 : decide (s < 0) = false := by simpa using a1
    by_cases a2 : s ≥ g.h
    · have hd2 : decide (s ≥ g.h) = true := by simpa using a2
      clear a1 a2 hr
      go_enter Try.func79, Try.ntmps79
      go_wp2_with fail
      refine (check_any _ _ _ _ g _ (hG.ext (by go_grown))).mono ?_
      rw [H0.out]
      rintro e w1 ⟨rfl, hb1⟩
      obtain ⟨B0, c1, c2, c3⟩ := (Blk.new w 28 (gC A c A' c' g)).go hb1
      go_wp2_with fail
      go_ret2
      have := reach_bad (w := w) (w' := w1) HB.out (ext_trans (by go_grown) hb1)
      rw [HE.out] at this
      exact this
    have hd2 : decide (s ≥ g.h) = false := by simpa using a2
    by_cases a3 : e < 0
    · have hd3 : decide (e < 0) = true := by simpa using a3
      clear a1 a2 a3 hr
      go_enter Try.func79, Try.ntmps79
      go_wp2_with fail
      refine (check_any _ _ _ _ g _ (hG.ext (by go_grown))).mono ?_
      rw [H0.out]
      rintro e w1 ⟨rfl, hb1⟩
      obtain ⟨B0, c1, c2, c3⟩ := (Blk.new w 28 (gC A c A' c' g)).go hb1
      go_wp2_with fail
      go_ret2
      have := reach_bad (w := w) (w' := w1) HB.out (ext_trans (by go_grown) hb1)
      rw [HE.out] at this
      exact this
    have hd3 : decide (e < 0) = false := by simpa using a3
    have hd4 : decide (e ≥ g.h) = true := by simp only [decide_eq_true_eq]; omega
    clear a1 a2 a3 hr
    go_enter Try.func79, Try.ntmps79
    go_wp2_with fail
    refine (check_any _ _ _ _ g _ (hG.ext (by go_grown))).mono ?_
    rw [H0.out]
    rintro e w1 ⟨rfl, hb1⟩
    obtain ⟨B0, c1, c2, c3⟩ := (Blk.new w 28 (gC A c A' c' g)).go hb1
    go_wp2_with fail
    go_ret2
    have := reach_bad (w := w) (w' := w1) HB.out (ext_trans (by go_grown) hb1)
    rw [HE.out] at this
    exact this
  have HE : Hid (reachErr g s e = 0) := Lib.hid (by unfold reachErr; rw [if_pos H0.out, if_pos hr])
  obtain ⟨⟨hs0, hs1⟩, he0, he1⟩ := hr
  have hV := valid_of H0.out
  have hh1 := hV.h1
  have hn12 := hV.nl
  have hd1 : decide (s < 0) = false := by simpa using hs0
  have hd2 : decide (s ≥ g.h) = false := by simpa using hs1
  have hd3 : decide (e < 0) = false := by simpa using he0
  have hd4 : decide (e ≥ g.h) = false := by simpa using he1
  obtain ⟨i0, hi, hz0, hz1, hz2⟩ := info_bool2
  obtain ⟨j0, hj, hy0, hy1, hy2⟩ := info_row2
  go_enter Try.func79, Try.ntmps79
  go_wp2_with fail
  refine (check_any _ _ _ _ g _ (hG.ext (by go_grown))).mono ?_
  rw [H0.out]
  rintro e' w1 ⟨rfl, hb1⟩
  obtain ⟨B0, c1, c2, c3⟩ := (Blk.new w 28 (gC A c A' c' g)).go hb1
  have hbw : Below w.heap.size w w1 := ext_trans (by go_grown) hb1
  have hzw : w.heap.size + 1 ≤ w1.heap.size := c3
  clear hb1
  go_wp2_with fail
  go_loopw [9, 42] (fun o x wr => ∃ (k : Nat) (items : List (Option Addr × Nat)) (rs : List (List Bool)), k ≤ g.lives.length ∧ x = .int .i64 k ∧ Hid (RowsOk g s e k rs) ∧ Own (rowEnc g.lives.length) 1 wr (w.heap.size + 1) 48 o items ∧ RowsAt wr items rs ∧
    Blk wr w.heap.size 28 (gC A c A' c' g) ∧ Below (w.heap.size + 1) w1 wr) (fun _ x _ => g.lives.length - (intOf x).toNat)
  case atStart => exact ⟨0, [], [], Nat.zero_le _, rfl, Lib.hid RowsOk.zero, Own.nil, RowsAt.nil, B0, Below.refl _ _⟩
  case round =>
    clear B0 c1 c2 c3
    obtain ⟨k, items, rs, hk, rfl, HR, hown, hrows, B0, hb⟩ := hrel
    have hbr : Below w.heap.size w wr := hbw.trans (hb.mono (by omega))
    have hzr : w.heap.size + 1 ≤ wr.heap.size := Nat.le_trans hzw hb.size
    by_cases hlt : k < g.lives.length
    case neg =>
      obtain rfl : k = g.lives.length := by omega
      have hil := hrows.1
      obtain ⟨Ao, co, rfl, hSo⟩ := own_items hown
      go_wp2_with fail
      go_ret2
      rw [← HE.out]
      exact ⟨Ao, co, items, rs, rfl, hSo, hrows, Lib.hid (fun _ => HR.out), Lib.hid (fun h => absurd HE.out h), by rw [hil, HR.out.1]; unfold maxLen; omega, hbr⟩
    have HIL := Lib.hid hrows.1
    have hil12 : items.length ≤ 12 := by rw [hrows.1, HR.out.1]; omega
    have HP : Hid (placeErr g k s = 0) := Lib.hid (place_ok hV (by omega) (by omega) hs0 hs1)
    obtain ⟨c1, c2, c3⟩ := B0.facts
    go_wp2_with fail
    refine (arrivals_any _ _ _ _ g k s _ (hG.ext hbr)).mono ?_
    rw [HP.out]
    rintro e' w2 ⟨l, A1, d1, hl, rfl, hA1, hm1, hb2⟩
    have HL := Lib.hid (arr_good HP.out hl)
    have hn := HL.out.1
    rw [hn]
    have HN := Lib.hid hn
    have hown2 := hown.ext hb2
    have hrows2 := hrows.ext hb2
    have B02 := B0.ext hb2
    have hb2' : Below (w.heap.size + 1) w1 w2 := hb.trans (hb2.mono hzr)
    have hbr2 := ext_trans hbr hb2
    have hzr2 : w.heap.size + 1 ≤ w2.heap.size := Nat.le_trans hzr hb2.size
    clear hl hn hown hrows B0 hb hb2 c1 c2 c3 hbr hzr
    go_wp2_with fail
    go_loopw [13, 54] (fun o x wr => ∃ (j : Nat), j ≤ g.lives.length ∧ x = .int .i64 j ∧ Own boolEnc 1 wr w2.heap.size 4 o ((markRow e l).take j) ∧ Below w2.heap.size w2 wr) (fun _ x _ => g.lives.length - (intOf x).toNat)
    case atStart => exact ⟨0, Nat.zero_le _, rfl, Own.nil, Below.refl _ _⟩
    case round =>
      obtain ⟨j, hjk, rfl, hown, hb⟩ := hrel
      have hz2 : w2.heap.size ≤ wr.heap.size := hb.size
      by_cases hlt2 : j < g.lives.length
      case pos =>
        obtain ⟨b1, o1, rfl, hz1', hc1⟩ := hA1.cells (by rw [HN.out]; omega)
        have kj := cell_keep hb (hc1 j (by rw [HN.out]; exact hlt2))
        have HT := Lib.hid (mark_take (e := e) (l := l) (j := j) (by rw [HN.out]; exact hlt2))
        obtain ⟨x, hx⟩ : ∃ x, gi l j = x := ⟨_, rfl⟩
        rw [hx] at kj HT
        have hlen : ((markRow e l).take j).length ≤ 12 := by rw [List.length_take]; omega
        clear hc1 hx
        go_wp2_with (at_builtin; refine wpList_append_el (enc := boolEnc) rfl (.tmp 58) (.tmp 62) 48 rfl w2.heap.size 4 i0 _ 1 1 Try.underlying48 hi hz0 hz1 (by assumption) rfl (by decide) _ _ (decide (x ≤ e)) rfl hown _ rfl _ rfl rfl rfl bool_one (by omega) (by decide) (by omega) ?_; intro v' w6 hown6 hb6)
        go_roundw
        case rel => exact ⟨j + 1, by omega, by go_num, by rw [HT.out]; exact hown6, hb.trans hb6⟩
        case measure => simp [intOf]; omega
      case neg =>
        have hall : (markRow e l).take j = markRow e l := List.take_of_length_le (by simp [markRow, HN.out]; omega)
        rw [hall] at hown
        obtain ⟨Ab, cb, rfl, hB⟩ := hown.bown
        have hrl : (markRow e l).length = g.lives.length := by simp [markRow, HN.out]
        rw [hrl]
        have hown3 := hown2.ext hb
        have hrows3 := hrows2.ext hb
        have B03 := B02.ext hb
        have hb3 : Below (w.heap.size + 1) w1 wr := hb2'.trans (hb.mono hzr2)
        have HNX := Lib.hid (HR.out.next HL.out)
        clear hall hrl hown2 hrows2 B02 hown
        go_wp2_with (at_builtin; refine wpList_append_els (enc := rowEnc g.lives.length) rfl (.tmp 65) (.tmp 67) 101 rfl (w.heap.size + 1) 48 j0 _ 1 24 Try.underlying101 hj hy0 hy1 (by assumption) rfl (by decide) _ items [(Ab, cb)] 1 rfl rfl hown3 _ rfl _ rfl rfl rfl row_one (by omega) (by decide) (by omega) ?_; intro v' w6 hown6 hb6 hkp)
        go_roundw
        case rel => exact ⟨k + 1, items ++ [(Ab, cb)], rs ++ [markRow e l], by omega, by go_num, HNX, hown6, (hrows3.snoc hB).keep (fun b cs hb => hkp _ _ _ hb (by decide)), hkp _ _ _ B03 (by decide), hb3.trans hb6⟩
        case measure => simp [intOf]; omega
end Go.Proofs.Ytcgnalpcbcpmkaa
