/- One text: Read. -/
import Derived.BigRegion
import Derived.Test.YtjcimdpldlamfaaGreatDoorBd1aa46607c4
import Derived.Test.YtjcimdpldlamfaaGreatDoorBdd80fced6e0
import Derived.Test.YtjcimdpldlamfaaGreatDoorBd96fdae9b88
/- The walk of graph.read (printed by genread.py). -/
namespace Go.Proofs.YtjcimdpldlamfaaGreatDoor
open Go.RowKit

/-- What reading a line tells, and what it makes of the graph. -/
def ReadOut (p m : Nat) (r : Option GraphD) (w : World) (e : Ending) (w' : World) : Prop := Below p w w' ∧ match r with
 | none => e = .returned (.bool false)
 | some g' => e = .returned (.bool true) ∧ ∃ h vl ve lv items, GMem w' p m h vl ve lv items ∧ gOf h lv items = g'
theorem read_none {p m : Nat} {w w' : World} {e : Ending} {r : Option GraphD} (hr : r = none) (hb : Below p w w') (he : e = .returned (.bool false)) : ReadOut p m r w e w' := by subst hr; exact ⟨hb, he⟩
theorem read_some {p m : Nat} {w w' : World} {e : Ending} {r : Option GraphD} {g' : GraphD} {h : Int} {vl ve : Value} {lv : List IvlD} {items : List EItem} (hr : r = some g') (hb : Below p w w') (he : e = .returned (.bool true)) (hM : GMem w' p m h vl ve lv items) (hg : gOf h lv items = g') : ReadOut p m r w e w' := by
 subst hr; exact ⟨hb, he, h, vl, ve, lv, items, hM, hg⟩
theorem numsR_true {l : List (List UInt8)} {m : Int} {n : List Int} (h : numsR l m = (n, true)) : (l.length : Int) = m ∧ numsB l = some n ∧ (n.length : Int) = m := by
 unfold numsR at h
 split at h
 ·next hm =>
  split at h
  ·next n' hn =>
   simp only [Prod.mk.injEq, and_true] at h
   subst h
   refine ⟨hm, hn, ?_⟩
   unfold numsB at hn
   split at hn
   ·rw [← Option.some.inj hn, List.length_map]; exact hm
   ·cases hn
  ·simp at h
 ·simp at h
theorem numsR_false {l : List (List UInt8)} {m : Int} {n : List Int} (h : numsR l m = (n, false)) : numsB l = none ∨ ∃ n', numsB l = some n' ∧ (n'.length : Int) ≠ m := by
 unfold numsR at h
 cases hq : numsB l with
 | none => exact .inl rfl
 | some n' =>
  right
  refine ⟨n', rfl, ?_⟩
  have hl : n'.length = l.length := by
   unfold numsB at hq
   split at hq
   ·rw [← Option.some.inj hq, List.length_map]
   ·cases hq
  rw [hq] at h
  intro e
  rw [if_pos (by rw [← hl]; exact e)] at h
  simp at h
theorem stepN_len {g : GraphD} {v : List UInt8} {n : List Int} {m : Int} (hm : ∀ g', stepN g v n = some g' → (n.length : Int) = m) (h : (n.length : Int) ≠ m) : stepN g v n = none := by
 cases hs : stepN g v n with
 | none => rfl
 | some g' => exact absurd (hm g' hs) h
theorem stepG_bad {g : GraphD} {f : Bool} {v : List UInt8} {ws : List (List UInt8)} {n : List Int} {m : Int} (h : numsR ws m = (n, false)) (hm : ∀ n g', stepN g v n = some g' → (n.length : Int) = m) : stepG g f (v :: ws) = none := by
 simp only [stepG]
 rcases numsR_false h with h1 | ⟨n', h1, h2⟩
 ·rw [h1]
 ·rw [h1]
  simp only
  rw [stepN_len (hm n') h2]
  simp
theorem stepG_good {g : GraphD} {f : Bool} {v : List UInt8} {ws : List (List UInt8)} {n : List Int} {m : Int} (h : numsR ws m = (n, true)) (hf : f = decide (v = wTime)) : stepG g f (v :: ws) = stepN g v n := by
 simp only [stepG]
 rw [(numsR_true h).2.1]
 simp only
 rw [if_pos hf]
theorem stepG_miss {g : GraphD} {f : Bool} {v : List UInt8} {ws : List (List UInt8)} (hf : f ≠ decide (v = wTime)) : stepG g f (v :: ws) = none := by
 simp only [stepG]
 split
 ·rfl
 ·rw [if_neg hf]
theorem many_time {g : GraphD} : ∀ n g', stepN g wTime n = some g' → (n.length : Int) = 1 := fun n g' h => by
 unfold stepN at h
 split at h
 ·rfl
 ·simp [wTime, wVertex, wEdge] at h
 ·simp [wTime, wLeg] at h
 ·cases h
theorem many_vertex {g : GraphD} : ∀ n g', stepN g wVertex n = some g' → (n.length : Int) = 2 := fun n g' h => by
 unfold stepN at h
 split at h
 ·simp [wTime, wVertex] at h
 ·rfl
 ·simp [wVertex, wLeg] at h
 ·cases h
theorem many_edge {g : GraphD} : ∀ n g', stepN g wEdge n = some g' → (n.length : Int) = 2 := fun n g' h => by
 unfold stepN at h
 split at h
 ·simp [wTime, wEdge] at h
 ·rfl
 ·simp [wEdge, wLeg] at h
 ·cases h
theorem many_leg {g : GraphD} : ∀ n g', stepN g wLeg n = some g' → (n.length : Int) = 4 := fun n g' h => by
 unfold stepN at h
 split at h
 ·simp [wTime, wLeg] at h
 ·simp [wLeg, wVertex, wEdge] at h
 ·rfl
 ·cases h
theorem stepN_other {g : GraphD} {v : List UInt8} {n : List Int} (h1 : v ≠ wTime) (h2 : v ≠ wVertex) (h3 : v ≠ wEdge) (h4 : v ≠ wLeg) : stepN g v n = none := by
 unfold stepN
 split
 ·rw [if_neg h1]
 ·rw [if_neg h2, if_neg h3]
 ·rw [if_neg h4]
 ·rfl
theorem nums_one {n : List Int} (h : (n.length : Int) = 1) : ∃ a, n = [a] := by
 match n, h with
 | [a], _ => exact ⟨a, rfl⟩
 | [], h => simp at h
 | a :: b :: r, h => simp only [List.length_cons] at h; omega
theorem nums_two {n : List Int} (h : (n.length : Int) = 2) : ∃ a b, n = [a, b] := by
 match n, h with
 | [a, b], _ => exact ⟨a, b, rfl⟩
 | [], h => simp at h
 | [a], h => simp at h
 | a :: b :: c :: r, h => simp only [List.length_cons] at h; omega
theorem nums_four {n : List Int} (h : (n.length : Int) = 4) : ∃ a b c d, n = [a, b, c, d] := by
 match n, h with
 | [a, b, c, d], _ => exact ⟨a, b, c, d, rfl⟩
 | [], h => simp at h
 | [a], h => simp at h
 | [a, b], h => simp at h
 | [a, b, c], h => simp at h
 | a :: b :: c :: d :: e :: r, h => simp only [List.length_cons] at h; omega
theorem stepN_edge {g : GraphD} {a b : Int} : stepN g wEdge [a, b] = some { g with edges := g.edges ++ [⟨a, b, []⟩] } := by
 have hne : ¬ wEdge = wVertex := by decide
 simp [stepN, hne]
theorem leg_four {a b c d : Int} : ∀ u ∈ (#[.int .i64 a, .int .i64 b, .int .i64 c, .int .i64 d] : Array Value).toList, u.oneCell' = true := by simp [Value.oneCell']
theorem word_ne {v u : List UInt8} (h : v ≠ u) : (v == u) = false := by simpa using h

set_option maxRecDepth 100000 in
set_option maxHeartbeats 16000000 in
theorem read_time (p n : Nat) (h : Int) (vl ve : Value) (lv : List IvlD) (items : List EItem) (b off c : Nat) (v : List UInt8) (ws : List (List UInt8)) (first : Bool) (w : World) (M : GMem w p n h vl ve lv items) (hS : StrsAt w (some ⟨b, off, none⟩) c (v :: ws)) (hl : ws.length ≤ 100000) (hs : ∀ x, x ∈ ws → x.length ≤ 100000) (_ : n ≤ 10000) (hc1 : 1 < c) (HV : Hid (v = wTime)) :
  Calls Tryz.prog 116 #[.pointer (some ⟨p, 0, none⟩), .slice (some ⟨b, off, none⟩) (ws.length + 1) c, .bool first] w (ReadOut p (n + 1) (stepG (gOf h lv items) first (v :: ws)) w) := by
 have hx : w.cell? ⟨b, off, none⟩ = some (.string (bs v)) := by
  obtain ⟨b', off', e, _, hc⟩ := hS.get (k := 0) rfl
  obtain ⟨rfl, rfl⟩ : b = b' ∧ off = off' := by simpa using e
  simpa using hc
 have hblt : b < w.heap.size := World.block_lt_of_cell? w _ hx
 have hnums := wordNums_any (some ⟨b, off + 1, none⟩) (c - 1) ws 1 w hS.tail hl hs
 have hcl : ws.length + 1 ≤ c := by simpa using hS.lc
 have hcm : c ≤ 9223372036854775807 := hS.cm
 have hpw := M.le
 have q1 : (v == [116, 105, 109, 101]) = true := by simp [HV.out, wTime]
 have HS := Lib.hid hS
 have HX := Lib.hid hx
 obtain ⟨A, cA, A', cA', rfl, rfl, hG⟩ := M.at_
 have HM := Lib.hid M
 obtain ⟨⟨nl, ok⟩, hR⟩ : ∃ r, numsR ws 1 = r := ⟨_, rfl⟩
 have HR := Lib.hid hR
 rw [hR] at hnums
 clear hR hS hs M hG
 go_enter Tryz.func116, Tryz.ntmps116
 go_wp2_with fail
 refine hnums.mono ?_
 rintro e w5 ⟨A5, c5, rfl, ⟨hI5, hI64⟩, hb5⟩
 have x5 := (hb5.cell (p := ⟨b, off, none⟩) hblt).trans hx
 have hbp : Below p w w5 := hb5.mono (Nat.le_of_lt hpw)
 clear hnums hx
 cases ok
 case false =>
  have HN : Hid (stepG (gOf h lv items) first (v :: ws) = none) := Lib.hid (stepG_bad HR.out (by rw [HV.out]; exact many_time))
  clear hI5 hI64
  go_wp2_with fail
  go_ret
  exact read_none HN.out hbp rfl
 case true =>
  cases first
  case false =>
   have HN : Hid (stepG (gOf h lv items) false (v :: ws) = none) := Lib.hid (stepG_miss (by rw [HV.out]; decide))
   clear hI5 hI64
   go_wp2_with fail
   go_ret
   exact read_none HN.out hbp rfl
  case true =>
   have HN : Hid (stepG (gOf h lv items) true (v :: ws) = stepN (gOf h lv items) v nl) := Lib.hid (stepG_good HR.out (by rw [HV.out]; decide))
   obtain ⟨a, rfl⟩ := nums_one (numsR_true HR.out).2.2
   obtain ⟨g5, cs5, rfl, hg5, B5, h5⟩ := own_at hI5 (by simp)
   have n0 := h5 0 a rfl
   have i0 := hI64 a (by simp)
   have M5 := HM.out.ext hb5
   obtain ⟨r1, r2, r3⟩ := B5.facts
   obtain ⟨p1, p2, p3⟩ := M5.gr.facts
   have hp5 : p + 1 ≤ w5.heap.size := M5.le
   clear h5 hI64 hI5
   go_wp2_with fail
   go_ret
   refine read_some (g' := ⟨a, lv, items.map Prod.fst⟩) ?_ (hbp.setCell (Nat.le_refl _) _) rfl ((M5.time i0).more (by omega)) rfl
   rw [HN.out, HV.out]
   rfl
set_option maxRecDepth 100000 in
set_option maxHeartbeats 16000000 in
theorem read_vertex (p n : Nat) (h : Int) (vl ve : Value) (lv : List IvlD) (items : List EItem) (b off c : Nat) (v : List UInt8) (ws : List (List UInt8)) (first : Bool) (w : World) (M : GMem w p n h vl ve lv items) (hS : StrsAt w (some ⟨b, off, none⟩) c (v :: ws)) (hl : ws.length ≤ 100000) (hs : ∀ x, x ∈ ws → x.length ≤ 100000) (hn : n ≤ 10000) (hc1 : 1 < c) (HV : Hid (v = wVertex)) :
  Calls Tryz.prog 116 #[.pointer (some ⟨p, 0, none⟩), .slice (some ⟨b, off, none⟩) (ws.length + 1) c, .bool first] w (ReadOut p (n + 1) (stepG (gOf h lv items) first (v :: ws)) w) := by
 have hx : w.cell? ⟨b, off, none⟩ = some (.string (bs v)) := by
  obtain ⟨b', off', e, _, hc⟩ := hS.get (k := 0) rfl
  obtain ⟨rfl, rfl⟩ : b = b' ∧ off = off' := by simpa using e
  simpa using hc
 have hblt : b < w.heap.size := World.block_lt_of_cell? w _ hx
 have hnums := wordNums_any (some ⟨b, off + 1, none⟩) (c - 1) ws 2 w hS.tail hl hs
 have hcl : ws.length + 1 ≤ c := by simpa using hS.lc
 have hcm : c ≤ 9223372036854775807 := hS.cm
 have hpw := M.le
 have q1 : (v == [116, 105, 109, 101]) = false := by simp [HV.out, wVertex]
 have q2 : (v == [118, 101, 114, 116, 101, 120]) = true := by simp [HV.out, wVertex]
 have HS := Lib.hid hS
 have HX := Lib.hid hx
 obtain ⟨A, cA, A', cA', rfl, rfl, hG⟩ := M.at_
 have HM := Lib.hid M
 obtain ⟨⟨nl, ok⟩, hR⟩ : ∃ r, numsR ws 2 = r := ⟨_, rfl⟩
 have HR := Lib.hid hR
 rw [hR] at hnums
 clear hR hS hs M hG
 go_enter Tryz.func116, Tryz.ntmps116
 go_wp2_with fail
 refine hnums.mono ?_
 rintro e w5 ⟨A5, c5, rfl, ⟨hI5, hI64⟩, hb5⟩
 have x5 := (hb5.cell (p := ⟨b, off, none⟩) hblt).trans hx
 have hbp : Below p w w5 := hb5.mono (Nat.le_of_lt hpw)
 clear hnums hx
 cases ok
 case false =>
  have HN : Hid (stepG (gOf h lv items) first (v :: ws) = none) := Lib.hid (stepG_bad HR.out (by rw [HV.out]; exact many_vertex))
  clear hI5 hI64
  go_wp2_with fail
  go_ret
  exact read_none HN.out hbp rfl
 case true =>
  cases first
  case true =>
   have HN : Hid (stepG (gOf h lv items) true (v :: ws) = none) := Lib.hid (stepG_miss (by rw [HV.out]; decide))
   clear hI5 hI64
   go_wp2_with fail
   go_ret
   exact read_none HN.out hbp rfl
  case false =>
   have HN : Hid (stepG (gOf h lv items) false (v :: ws) = stepN (gOf h lv items) v nl) := Lib.hid (stepG_good HR.out (by rw [HV.out]; decide))
   obtain ⟨a, a2, rfl⟩ := nums_two (numsR_true HR.out).2.2
   obtain ⟨g5, cs5, rfl, hg5, B5, h5⟩ := own_at hI5 (by simp)
   have n0 := h5 0 a rfl
   have n1 := h5 1 a2 rfl
   have i0 := hI64 a (by simp)
   have i1 := hI64 a2 (by simp)
   have M5 := HM.out.ext hb5
   obtain ⟨r1, r2, r3⟩ := B5.facts
   obtain ⟨p1, p2, p3⟩ := M5.gr.facts
   have hp5 : p + 1 ≤ w5.heap.size := M5.le
   clear h5 hI64 hI5
   obtain ⟨j0, hj, hj0, hj1, hj2⟩ := info_ivl2
   rcases List.eq_nil_or_concat items with rfl | ⟨init, it, rfl⟩
   case inr =>
    have HN2 : Hid (stepN (gOf h lv (init.concat it)) v [a, a2] = none) := Lib.hid (by rw [HV.out]; simp [stepN])
    rw [List.concat_eq_append, List.length_append] at p1
    simp only [List.length_cons, List.length_nil, Nat.zero_add] at p1
    rw [List.concat_eq_append] at M5
    have hil : init.length ≤ 10000 := by have := M5.cnt.2.1; simp at this; omega
    have hjw : IntKind.i64.wrap (init.length : Int) = init.length := IntWalk.i64_in _ (by omega)
    have hd : decide ((init.length : Int) ≥ 0) = true := by simp
    clear M5
    go_wp2_with fail
    go_ret
    exact read_none (HN.out.trans HN2.out) hbp rfl
   case inl =>
    have HN2 : Hid (stepN (gOf h lv []) v [a, a2] = some ⟨h, lv ++ [⟨a, a2⟩], []⟩) := Lib.hid (by rw [HV.out]; simp [stepN])
    go_wp2_with fail
    obtain ⟨S, hSS⟩ : ∃ S : World → Prop, Hid (S = fun w' => w'.cell? ⟨p, 1, none⟩ = some (.slice A lv.length cA) ∧ w'.cell? ⟨g5, 0, none⟩ = some (.int .i64 a) ∧ w'.cell? ⟨g5, 1, none⟩ = some (.int .i64 a2)) := ⟨_, Lib.hid rfl⟩
    have HSB : Hid (∀ w' : World, Blk w' p 68 #[.int .i64 h, .slice A lv.length cA, .slice A' ([] : List EItem).length cA'] → Blk w' g5 3 cs5 → S w') := Lib.hid fun w' h1 h2 => by rw [hSS.out]; exact ⟨by rw [h1.cell]; rfl, by rw [h2.cell]; exact n0, by rw [h2.cell]; exact n1⟩
    have hS0 : S w5.drew := HSB.out _ M5.gr.drew B5.drew
    clear r1 r2 r3 p1 p2 p3
    refine WpN.begin (S := S) 16 (by kernel_rfl) ?_
    refine tN 0 ?_ ?_ <| tN 1 ?_ ?_ <| tN 2 ?_ ?_ <| tN 3 ?_ ?_ <| tN 4 ?_ ?_ <| tN 5 ?_ ?_ <| tN 6 ?_ ?_ <| tN 7 ?_ ?_ <| tN 8 ?_ ?_ <| tN 9 ?_ ?_ <| tN 10 ?_ ?_ <| tN 11 ?_ ?_ ?_
    iterate 12
     rotate_left
     ·intro w hSw; rw [hSS.out] at hSw; obtain ⟨sw0, sw1, sw2⟩ := hSw; (try simp only [pS]); go_simp; try with_reducible rfl
    try simp only [pS]
    refine WpN.one (i := 12) rfl (by kernel_rfl) fun K hK => ?_
    go_wp2_with fail
    have M7 : GMem (w5.drew.alloc (Obj.cells #[.int .i64 a, .int .i64 a2] 94)) p n h (.slice A lv.length cA) (.slice A' ([] : List EItem).length cA') lv ([] : List EItem) := M5.drew.keep fun _ _ _ h => h.alloc _
    have B7 : Blk (w5.drew.alloc (Obj.cells #[.int .i64 a, .int .i64 a2] 94)) g5 3 cs5 := B5.drew.alloc _
    have hS7 := HSB.out _ M7.gr B7
    refine hK.out _ _ ⟨fun _ => hS7, ?_⟩
    clear hK K
    try simp only [pS]
    refine WpN.one (i := 13) rfl (by kernel_rfl) fun K hK => ?_
    refine wp_append_lie (enc := ivlC) (.tmp 67) (.tmp 75) 65 rfl (p + 1) 94 j0 _ 2 16 Tryz.underlying65 hj hj0 hj1 hj2 rfl (by decide) _ lv ⟨a, a2⟩ rfl M5.drew.lives #[.int .i64 a, .int .i64 a2] rfl w5.drew.heap.size rfl rfl rfl two_one (by have := M5.cnt; omega) (by decide) hp5 ?_
    intro gn cap w6 hown6 hbb hkp hgn
    have B6 := hkp _ _ _ B5.drew (M5.drew.lives.other B5.drew (by decide))
    obtain ⟨G6, M6⟩ := M5.drew.vertex hown6 hkp ⟨i0, i1⟩
    have hS8 := HSB.out _ G6 B6
    refine hK.out _ _ ⟨fun _ => hS8, ?_⟩
    clear hK K
    try simp only [Act.put, List.setIfInBounds_toArray]
    refine WpN.takeD (i := 14) (v := ?_) rfl rfl (by kernel_rfl) (fun _ _ _ h => h) (Or.inl ⟨by rfl, ?_⟩) (by assumption) ?_
    rotate_left
    ·intro w hSw; rw [hSS.out] at hSw; obtain ⟨sw0, sw1, sw2⟩ := hSw; go_simp; try with_reducible rfl
    try simp only [Act.put]
    refine WpN.takeD (i := 15) (v := ?_) rfl rfl (by kernel_rfl) (fun _ _ _ h => h) (Or.inl ⟨by rfl, ?_⟩) (by assumption) ?_
    rotate_left
    ·intro w hSw; rw [hSS.out] at hSw; obtain ⟨sw0, sw1, sw2⟩ := hSw; go_simp; try with_reducible rfl
    try simp only [Act.put]
    refine WpN.one (i := 16) rfl (by kernel_rfl) fun K hK => ?_
    obtain ⟨y1, y2, y3⟩ := G6.facts
    go_wp2_with fail
    refine hK.out _ _ ⟨fun h => by omega, ?_⟩
    clear hK K
    refine WpN.done (by kernel_rfl) ?_ _
    clear y1 y2 y3
    go_wp2_with fail
    go_ret
    refine read_some (g' := ⟨h, lv ++ [⟨a, a2⟩], []⟩) ?_ (((below_drew hbp).trans (hbb.mono (Nat.le_succ p))).setCell (Nat.le_refl _) _) rfl M6 (by simp)
    exact HN.out.trans HN2.out
set_option maxRecDepth 100000 in
set_option maxHeartbeats 16000000 in
theorem read_edge (p n : Nat) (h : Int) (vl ve : Value) (lv : List IvlD) (items : List EItem) (b off c : Nat) (v : List UInt8) (ws : List (List UInt8)) (first : Bool) (w : World) (M : GMem w p n h vl ve lv items) (hS : StrsAt w (some ⟨b, off, none⟩) c (v :: ws)) (hl : ws.length ≤ 100000) (hs : ∀ x, x ∈ ws → x.length ≤ 100000) (hn : n ≤ 10000) (hc1 : 1 < c) (HV : Hid (v = wEdge)) :
  Calls Tryz.prog 116 #[.pointer (some ⟨p, 0, none⟩), .slice (some ⟨b, off, none⟩) (ws.length + 1) c, .bool first] w (ReadOut p (n + 1) (stepG (gOf h lv items) first (v :: ws)) w) := by
 have hx : w.cell? ⟨b, off, none⟩ = some (.string (bs v)) := by
  obtain ⟨b', off', e, _, hc⟩ := hS.get (k := 0) rfl
  obtain ⟨rfl, rfl⟩ : b = b' ∧ off = off' := by simpa using e
  simpa using hc
 have hblt : b < w.heap.size := World.block_lt_of_cell? w _ hx
 have hnums := wordNums_any (some ⟨b, off + 1, none⟩) (c - 1) ws 2 w hS.tail hl hs
 have hcl : ws.length + 1 ≤ c := by simpa using hS.lc
 have hcm : c ≤ 9223372036854775807 := hS.cm
 have hpw := M.le
 have q1 : (v == [116, 105, 109, 101]) = false := by simp [HV.out, wEdge]
 have q2 : (v == [118, 101, 114, 116, 101, 120]) = false := by simp [HV.out, wEdge]
 have q3 : (v == [101, 100, 103, 101]) = true := by simp [HV.out, wEdge]
 have HS := Lib.hid hS
 have HX := Lib.hid hx
 obtain ⟨A, cA, A', cA', rfl, rfl, hG⟩ := M.at_
 have HM := Lib.hid M
 obtain ⟨⟨nl, ok⟩, hR⟩ : ∃ r, numsR ws 2 = r := ⟨_, rfl⟩
 have HR := Lib.hid hR
 rw [hR] at hnums
 clear hR hS hs M hG
 go_enter Tryz.func116, Tryz.ntmps116
 go_wp2_with fail
 refine hnums.mono ?_
 rintro e w5 ⟨A5, c5, rfl, ⟨hI5, hI64⟩, hb5⟩
 have x5 := (hb5.cell (p := ⟨b, off, none⟩) hblt).trans hx
 have hbp : Below p w w5 := hb5.mono (Nat.le_of_lt hpw)
 clear hnums hx
 cases ok
 case false =>
  have HN : Hid (stepG (gOf h lv items) first (v :: ws) = none) := Lib.hid (stepG_bad HR.out (by rw [HV.out]; exact many_edge))
  clear hI5 hI64
  go_wp2_with fail
  go_ret
  exact read_none HN.out hbp rfl
 case true =>
  cases first
  case true =>
   have HN : Hid (stepG (gOf h lv items) true (v :: ws) = none) := Lib.hid (stepG_miss (by rw [HV.out]; decide))
   clear hI5 hI64
   go_wp2_with fail
   go_ret
   exact read_none HN.out hbp rfl
  case false =>
   have HN : Hid (stepG (gOf h lv items) false (v :: ws) = stepN (gOf h lv items) v nl) := Lib.hid (stepG_good HR.out (by rw [HV.out]; decide))
   obtain ⟨a, a2, rfl⟩ := nums_two (numsR_true HR.out).2.2
   obtain ⟨g5, cs5, rfl, hg5, B5, h5⟩ := own_at hI5 (by simp)
   have n0 := h5 0 a rfl
   have n1 := h5 1 a2 rfl
   have i0 := hI64 a (by simp)
   have i1 := hI64 a2 (by simp)
   have M5 := HM.out.ext hb5
   obtain ⟨r1, r2, r3⟩ := B5.facts
   obtain ⟨p1, p2, p3⟩ := M5.gr.facts
   have hp5 : p + 1 ≤ w5.heap.size := M5.le
   clear h5 hI64 hI5
   obtain ⟨j0, hj, hj0, hj1, hj2⟩ := info_edge2
   have hil : items.length ≤ 10000 := by have := M5.cnt.2.1; omega
   have hjw : IntKind.i64.wrap ((items.length : Int) - 1) = (items.length : Int) - 1 := IntWalk.i64_in _ (by omega)
   have HN2 : Hid (stepN (gOf h lv items) v [a, a2] = some ⟨h, lv, items.map Prod.fst ++ [⟨a, a2, []⟩]⟩) := Lib.hid (by rw [HV.out]; exact stepN_edge)
   go_wp2_with fail
   obtain ⟨S, hSS⟩ : ∃ S : World → Prop, Hid (S = fun w' => w'.cell? ⟨p, 2, none⟩ = some (.slice A' items.length cA') ∧ w'.cell? ⟨g5, 0, none⟩ = some (.int .i64 a) ∧ w'.cell? ⟨g5, 1, none⟩ = some (.int .i64 a2)) := ⟨_, Lib.hid rfl⟩
   have HSB : Hid (∀ w' : World, Blk w' p 68 #[.int .i64 h, .slice A lv.length cA, .slice A' items.length cA'] → Blk w' g5 3 cs5 → S w') := Lib.hid fun w' h1 h2 => by rw [hSS.out]; exact ⟨by rw [h1.cell]; rfl, by rw [h2.cell]; exact n0, by rw [h2.cell]; exact n1⟩
   have hS0 : S w5.drew := HSB.out _ M5.gr.drew B5.drew
   clear r1 r2 r3 p1 p2 p3
   refine WpN.begin (S := S) 16 (by kernel_rfl) ?_
   refine tN 0 ?_ ?_ <| tN 1 ?_ ?_ <| tN 2 ?_ ?_ <| tN 3 ?_ ?_ <| tN 4 ?_ ?_ <| tN 5 ?_ ?_ <| tN 6 ?_ ?_ <| tN 7 ?_ ?_ <| tN 8 ?_ ?_ <| tN 9 ?_ ?_ <| tN 10 ?_ ?_ <| tN 11 ?_ ?_ ?_
   iterate 12
    rotate_left
    ·intro w hSw; rw [hSS.out] at hSw; obtain ⟨sw0, sw1, sw2⟩ := hSw; (try simp only [pS]); go_simp; try with_reducible rfl
   try simp only [pS]
   refine WpN.one (i := 12) rfl (by kernel_rfl) fun K hK => ?_
   go_wp2_with fail
   have M7 : GMem (w5.drew.alloc (Obj.cells #[.int .i64 a, .int .i64 a2, .slice none 0 0] 97)) p n h (.slice A lv.length cA) (.slice A' items.length cA') lv items := M5.drew.keep fun _ _ _ h => h.alloc _
   have B7 : Blk (w5.drew.alloc (Obj.cells #[.int .i64 a, .int .i64 a2, .slice none 0 0] 97)) g5 3 cs5 := B5.drew.alloc _
   have hS7 := HSB.out _ M7.gr B7
   refine hK.out _ _ ⟨fun _ => hS7, ?_⟩
   clear hK K
   try simp only [pS]
   refine WpN.one (i := 13) rfl (by kernel_rfl) fun K hK => ?_
   refine wp_append_lie (enc := eEnc) (.tmp 85) (.tmp 93) 66 rfl (p + 1) 97 j0 _ 3 40 Tryz.underlying66 hj hj0 hj1 hj2 rfl (by decide) _ items (⟨a, a2, []⟩, none, 0) rfl M5.drew.edges #[.int .i64 a, .int .i64 a2, .slice none 0 0] rfl w5.drew.heap.size rfl rfl rfl three_one (by have := M5.cnt; omega) (by decide) hp5 ?_
   intro gn cap w6 hown6 hbb hkp hgn
   have B6 := hkp _ _ _ B5.drew (M5.drew.edges.other B5.drew (by decide))
   obtain ⟨G6, M6⟩ := M5.drew.edge hown6 hkp ⟨i0, i1⟩
   have hS8 := HSB.out _ G6 B6
   refine hK.out _ _ ⟨fun _ => hS8, ?_⟩
   clear hK K
   try simp only [Act.put, List.setIfInBounds_toArray]
   refine WpN.takeD (i := 14) (v := ?_) rfl rfl (by kernel_rfl) (fun _ _ _ h => h) (Or.inl ⟨by rfl, ?_⟩) (by assumption) ?_
   rotate_left
   ·intro w hSw; rw [hSS.out] at hSw; obtain ⟨sw0, sw1, sw2⟩ := hSw; go_simp; try with_reducible rfl
   try simp only [Act.put]
   refine WpN.takeD (i := 15) (v := ?_) rfl rfl (by kernel_rfl) (fun _ _ _ h => h) (Or.inl ⟨by rfl, ?_⟩) (by assumption) ?_
   rotate_left
   ·intro w hSw; rw [hSS.out] at hSw; obtain ⟨sw0, sw1, sw2⟩ := hSw; go_simp; try with_reducible rfl
   try simp only [Act.put]
   refine WpN.one (i := 16) rfl (by kernel_rfl) fun K hK => ?_
   obtain ⟨y1, y2, y3⟩ := G6.facts
   go_wp2_with fail
   refine hK.out _ _ ⟨fun h => by omega, ?_⟩
   clear hK K
   refine WpN.done (by kernel_rfl) ?_ _
   clear y1 y2 y3
   go_wp2_with fail
   go_ret
   refine read_some (g' := ⟨h, lv, items.map Prod.fst ++ [⟨a, a2, []⟩]⟩) ?_ (((below_drew hbp).trans (hbb.mono (Nat.le_succ p))).setCell (Nat.le_refl _) _) rfl M6 (by simp)
   exact HN.out.trans HN2.out
set_option maxRecDepth 100000 in
set_option maxHeartbeats 16000000 in
theorem read_leg (p n : Nat) (h : Int) (vl ve : Value) (lv : List IvlD) (items : List EItem) (b off c : Nat) (v : List UInt8) (ws : List (List UInt8)) (first : Bool) (w : World) (M : GMem w p n h vl ve lv items) (hS : StrsAt w (some ⟨b, off, none⟩) c (v :: ws)) (hl : ws.length ≤ 100000) (hs : ∀ x, x ∈ ws → x.length ≤ 100000) (hn : n ≤ 10000) (hc1 : 1 < c) (HV : Hid (v = wLeg)) :
  Calls Tryz.prog 116 #[.pointer (some ⟨p, 0, none⟩), .slice (some ⟨b, off, none⟩) (ws.length + 1) c, .bool first] w (ReadOut p (n + 1) (stepG (gOf h lv items) first (v :: ws)) w) := by
 have hx : w.cell? ⟨b, off, none⟩ = some (.string (bs v)) := by
  obtain ⟨b', off', e, _, hc⟩ := hS.get (k := 0) rfl
  obtain ⟨rfl, rfl⟩ : b = b' ∧ off = off' := by simpa using e
  simpa using hc
 have hblt : b < w.heap.size := World.block_lt_of_cell? w _ hx
 have hnums := wordNums_any (some ⟨b, off + 1, none⟩) (c - 1) ws 4 w hS.tail hl hs
 have hcl : ws.length + 1 ≤ c := by simpa using hS.lc
 have hcm : c ≤ 9223372036854775807 := hS.cm
 have hpw := M.le
 have q1 : (v == [116, 105, 109, 101]) = false := by simp [HV.out, wLeg]
 have q2 : (v == [118, 101, 114, 116, 101, 120]) = false := by simp [HV.out, wLeg]
 have q3 : (v == [101, 100, 103, 101]) = false := by simp [HV.out, wLeg]
 have q4 : (v == [108, 101, 103]) = true := by simp [HV.out, wLeg]
 have HS := Lib.hid hS
 have HX := Lib.hid hx
 obtain ⟨A, cA, A', cA', rfl, rfl, hG⟩ := M.at_
 have HM := Lib.hid M
 obtain ⟨⟨nl, ok⟩, hR⟩ : ∃ r, numsR ws 4 = r := ⟨_, rfl⟩
 have HR := Lib.hid hR
 rw [hR] at hnums
 clear hR hS hs M hG
 go_enter Tryz.func116, Tryz.ntmps116
 go_wp2_with fail
 refine hnums.mono ?_
 rintro e w5 ⟨A5, c5, rfl, ⟨hI5, hI64⟩, hb5⟩
 have x5 := (hb5.cell (p := ⟨b, off, none⟩) hblt).trans hx
 have hbp : Below p w w5 := hb5.mono (Nat.le_of_lt hpw)
 clear hnums hx
 cases ok
 case false =>
  have HN : Hid (stepG (gOf h lv items) first (v :: ws) = none) := Lib.hid (stepG_bad HR.out (by rw [HV.out]; exact many_leg))
  clear hI5 hI64
  go_wp2_with fail
  go_ret
  exact read_none HN.out hbp rfl
 case true =>
  cases first
  case true =>
   have HN : Hid (stepG (gOf h lv items) true (v :: ws) = none) := Lib.hid (stepG_miss (by rw [HV.out]; decide))
   clear hI5 hI64
   go_wp2_with fail
   go_ret
   exact read_none HN.out hbp rfl
  case false =>
   have HN : Hid (stepG (gOf h lv items) false (v :: ws) = stepN (gOf h lv items) v nl) := Lib.hid (stepG_good HR.out (by rw [HV.out]; decide))
   obtain ⟨a, a2, a3, a4, rfl⟩ := nums_four (numsR_true HR.out).2.2
   obtain ⟨g5, cs5, rfl, hg5, B5, h5⟩ := own_at hI5 (by simp)
   have n0 := h5 0 a rfl
   have n1 := h5 1 a2 rfl
   have n2 := h5 2 a3 rfl
   have n3 := h5 3 a4 rfl
   have i0 := hI64 a (by simp)
   have i1 := hI64 a2 (by simp)
   have i2 := hI64 a3 (by simp)
   have i3 := hI64 a4 (by simp)
   have M5 := HM.out.ext hb5
   obtain ⟨r1, r2, r3⟩ := B5.facts
   obtain ⟨p1, p2, p3⟩ := M5.gr.facts
   have hp5 : p + 1 ≤ w5.heap.size := M5.le
   clear h5 hI64 hI5
   obtain ⟨j0, hj, hj0, hj1, hj2⟩ := info_leg2
   rcases List.eq_nil_or_concat items with rfl | ⟨init, it, rfl⟩
   case inl =>
    have HN2 : Hid (stepN (gOf h lv []) v [a, a2, a3, a4] = none) := Lib.hid (by rw [HV.out]; exact stepN_leg0 rfl)
    clear M5
    go_wp2_with fail
    go_ret
    exact read_none (HN.out.trans HN2.out) hbp rfl
   case inr =>
    rw [List.concat_eq_append] at M5 HN p1
    have HN2 : Hid (stepN (gOf h lv (init ++ [it])) v [a, a2, a3, a4] = some ⟨h, lv, init.map Prod.fst ++ [⟨it.1.a, it.1.b, it.1.legs ++ [⟨a, a2, a3, a4⟩]⟩]⟩) := Lib.hid (by
     rw [HV.out]
     exact stepN_leg (l := init.map Prod.fst) (x := it.1) (by simp))
    rw [List.length_append] at M5 p1
    simp only [List.length_cons, List.length_nil, Nat.zero_add] at M5 p1
    obtain ⟨ge, rfl, _, hge, cse, BE, hce⟩ := edges_last M5.edges
    have hil : init.length ≤ 10000 := by have := M5.cnt.2.1; simp at this; omega
    have hll : it.1.legs.length ≤ 10000 := by have := M5.cnt.2.2 it (by simp); omega
    have HL : Hid (LastAt w5.drew (p + 1) init it) := Lib.hid (M5.drew.legs init it rfl)
    have hjw : IntKind.i64.wrap (init.length : Int) = init.length := IntWalk.i64_in _ (by omega)
    have hd : decide ((init.length : Int) < 0) = false := by simp
    have hjl : init.length < init.length + 1 := by omega
    have hjz : (init.length : Int) < (init.length : Int) + 1 := by omega
    obtain ⟨z1, z2, z3⟩ := BE.facts
    go_wp2_with fail
    clear z1 z2 z3
    obtain ⟨S, hSS⟩ : ∃ S : World → Prop, Hid (S = fun w' => w'.cell? ⟨p, 2, none⟩ = some (.slice (some ⟨ge, 0, none⟩) (init.length + 1) cA') ∧ w'.cell? ⟨ge, init.length * 3 + 2, none⟩ = some (.slice it.2.1 it.1.legs.length it.2.2) ∧ w'.cell? ⟨g5, 0, none⟩ = some (.int .i64 a) ∧ w'.cell? ⟨g5, 1, none⟩ = some (.int .i64 a2) ∧ w'.cell? ⟨g5, 2, none⟩ = some (.int .i64 a3) ∧ w'.cell? ⟨g5, 3, none⟩ = some (.int .i64 a4)) := ⟨_, Lib.hid rfl⟩
    have HSB : Hid (∀ w' : World, Blk w' p 68 #[.int .i64 h, .slice A lv.length cA, .slice (some ⟨ge, 0, none⟩) (init.length + 1) cA'] → Blk w' ge 97 cse → Blk w' g5 3 cs5 → S w') := Lib.hid fun w' h1 h3 h2 => by rw [hSS.out]; exact ⟨by rw [h1.cell]; rfl, by rw [h3.cell]; exact hce, by rw [h2.cell]; exact n0, by rw [h2.cell]; exact n1, by rw [h2.cell]; exact n2, by rw [h2.cell]; exact n3⟩
    have hS0 : S w5.drew := HSB.out _ M5.gr.drew BE.drew B5.drew
    clear r1 r2 r3 p1 p2 p3
    refine WpN.begin (S := S) 30 (by kernel_rfl) ?_
    refine tN 0 ?_ ?_ <| tN 1 ?_ ?_ <| tN 2 ?_ ?_ <| tN 3 ?_ ?_ <| tN 4 ?_ ?_ <| tN 5 ?_ ?_ <| tN 6 ?_ ?_ <| tN 7 ?_ ?_ <| tN 8 ?_ ?_ <| tN 9 ?_ ?_ <| tN 10 ?_ ?_ <| tN 11 ?_ ?_ <| tN 12 ?_ ?_ <| tN 13 ?_ ?_ <| tN 14 ?_ ?_ <| tN 15 ?_ ?_ <| tN 16 ?_ ?_ <| tN 17 ?_ ?_ <| tN 18 ?_ ?_ <| tN 19 ?_ ?_ <| tN 20 ?_ ?_ <| tN 21 ?_ ?_ <| tN 22 ?_ ?_ <| tN 23 ?_ ?_ <| tN 24 ?_ ?_ <| tN 25 ?_ ?_ ?_
    iterate 26
     rotate_left
     ·intro w hSw; rw [hSS.out] at hSw; obtain ⟨sw0, sw1, sw2, sw3, sw4, sw5⟩ := hSw; (try simp only [pS]); go_simp; try with_reducible rfl
    try simp only [pS]
    refine WpN.one (i := 26) rfl (by kernel_rfl) fun K hK => ?_
    go_wp2_with fail
    have G7 : Blk (w5.drew.alloc (Obj.cells #[.int .i64 a, .int .i64 a2, .int .i64 a3, .int .i64 a4] 100)) p 68 #[.int .i64 h, .slice A lv.length cA, .slice (some ⟨ge, 0, none⟩) (init.length + 1) cA'] := M5.gr.drew.alloc _
    have hS7 := HSB.out _ G7 (BE.drew.alloc _) (B5.drew.alloc _)
    refine hK.out _ _ ⟨fun _ => hS7, ?_⟩
    clear hK K
    try simp only [pS]
    refine WpN.one (i := 27) rfl (by kernel_rfl) fun K hK => ?_
    refine wp_append_lie (enc := legC) (.tmp 113) (.tmp 127) 95 rfl (p + 1) 100 j0 _ 4 32 Tryz.underlying95 hj hj0 hj1 hj2 rfl (by decide) _ it.1.legs ⟨a, a2, a3, a4⟩ rfl HL.out.own #[.int .i64 a, .int .i64 a2, .int .i64 a3, .int .i64 a4] rfl w5.drew.heap.size rfl rfl rfl leg_four (by omega) (by decide) hp5 ?_
    intro gn cap w6 hown6 hbb hkp hgn
    have B6 := hkp _ _ _ B5.drew (HL.out.own.other B5.drew (by decide))
    obtain ⟨G6, hE6, M6⟩ := M5.drew.leg hown6 hkp (hgn.imp id id) ⟨i0, i1, i2, i3⟩
    have E6 := hE6 _ BE.drew
    have hS8 := HSB.out _ G6 E6 B6
    refine hK.out _ _ ⟨fun _ => hS8, ?_⟩
    clear hK K
    try simp only [Act.put, List.setIfInBounds_toArray]
    refine WpN.takeD (i := 28) (v := ?_) rfl rfl (by kernel_rfl) (fun _ _ _ h => h) (Or.inl ⟨by rfl, ?_⟩) (by assumption) ?_
    rotate_left
    ·intro w hSw; rw [hSS.out] at hSw; obtain ⟨sw0, sw1, sw2, sw3, sw4, sw5⟩ := hSw; go_simp; try with_reducible rfl
    try simp only [Act.put]
    refine WpN.takeD (i := 29) (v := ?_) rfl rfl (by kernel_rfl) (fun _ _ _ h => h) (Or.inl ⟨by rfl, ?_⟩) (by assumption) ?_
    rotate_left
    ·intro w hSw; rw [hSS.out] at hSw; obtain ⟨sw0, sw1, sw2, sw3, sw4, sw5⟩ := hSw; go_simp; try with_reducible rfl
    try simp only [Act.put]
    refine WpN.one (i := 30) rfl (by kernel_rfl) fun K hK => ?_
    obtain ⟨y1, y2, y3⟩ := E6.facts
    go_wp2_with fail
    refine hK.out _ _ ⟨fun h => by omega, ?_⟩
    clear hK K
    refine WpN.done (by kernel_rfl) ?_ _
    clear y1 y2 y3
    go_wp2_with fail
    go_ret
    refine read_some (g' := ⟨h, lv, init.map Prod.fst ++ [⟨it.1.a, it.1.b, it.1.legs ++ [⟨a, a2, a3, a4⟩]⟩]⟩) ?_ (((below_drew hbp).trans (hbb.mono (Nat.le_succ p))).setCell (by simp only; omega) _) rfl M6 (by simp)
    rw [List.concat_eq_append]
    exact HN.out.trans HN2.out
set_option maxRecDepth 100000 in
set_option maxHeartbeats 16000000 in
theorem read_other (p n : Nat) (h : Int) (vl ve : Value) (lv : List IvlD) (items : List EItem) (b off c : Nat) (v : List UInt8) (ws : List (List UInt8)) (first : Bool) (w : World) (M : GMem w p n h vl ve lv items) (hS : StrsAt w (some ⟨b, off, none⟩) c (v :: ws)) (hl : ws.length ≤ 100000) (hs : ∀ x, x ∈ ws → x.length ≤ 100000) (_ : n ≤ 10000) (hc1 : 1 < c) (HV : Hid (v ≠ wTime ∧ v ≠ wVertex ∧ v ≠ wEdge ∧ v ≠ wLeg)) :
  Calls Tryz.prog 116 #[.pointer (some ⟨p, 0, none⟩), .slice (some ⟨b, off, none⟩) (ws.length + 1) c, .bool first] w (ReadOut p (n + 1) (stepG (gOf h lv items) first (v :: ws)) w) := by
 have hx : w.cell? ⟨b, off, none⟩ = some (.string (bs v)) := by
  obtain ⟨b', off', e, _, hc⟩ := hS.get (k := 0) rfl
  obtain ⟨rfl, rfl⟩ : b = b' ∧ off = off' := by simpa using e
  simpa using hc
 have hblt : b < w.heap.size := World.block_lt_of_cell? w _ hx
 have hnums := wordNums_any (some ⟨b, off + 1, none⟩) (c - 1) ws 0 w hS.tail hl hs
 have hcl : ws.length + 1 ≤ c := by simpa using hS.lc
 have hcm : c ≤ 9223372036854775807 := hS.cm
 have hpw := M.le
 have q1 : (v == [116, 105, 109, 101]) = false := word_ne HV.out.1
 have q2 : (v == [118, 101, 114, 116, 101, 120]) = false := word_ne HV.out.2.1
 have q3 : (v == [101, 100, 103, 101]) = false := word_ne HV.out.2.2.1
 have q4 : (v == [108, 101, 103]) = false := word_ne HV.out.2.2.2
 have HS := Lib.hid hS
 have HX := Lib.hid hx
 obtain ⟨A, cA, A', cA', rfl, rfl, hG⟩ := M.at_
 have HM := Lib.hid M
 obtain ⟨⟨nl, ok⟩, hR⟩ : ∃ r, numsR ws 0 = r := ⟨_, rfl⟩
 have HR := Lib.hid hR
 rw [hR] at hnums
 clear hR hS hs M hG
 go_enter Tryz.func116, Tryz.ntmps116
 go_wp2_with fail
 refine hnums.mono ?_
 rintro e w5 ⟨A5, c5, rfl, ⟨hI5, hI64⟩, hb5⟩
 have x5 := (hb5.cell (p := ⟨b, off, none⟩) hblt).trans hx
 have hbp : Below p w w5 := hb5.mono (Nat.le_of_lt hpw)
 clear hnums hx
 cases ok
 case false =>
  have HN : Hid (stepG (gOf h lv items) first (v :: ws) = none) := Lib.hid (stepG_bad HR.out (fun n g' e => by rw [stepN_other HV.out.1 HV.out.2.1 HV.out.2.2.1 HV.out.2.2.2] at e; cases e))
  clear hI5 hI64
  go_wp2_with fail
  go_ret
  exact read_none HN.out hbp rfl
 case true =>
  have HN : Hid (stepG (gOf h lv items) first (v :: ws) = none) := Lib.hid (by
   simp only [stepG]
   split
   ·rfl
   ·rw [stepN_other HV.out.1 HV.out.2.1 HV.out.2.2.1 HV.out.2.2.2]; simp)
  clear hI5 hI64
  go_wp2_with fail
  go_ret
  exact read_none HN.out hbp rfl
/-- A line of one word alone. -/
theorem read_short (p n : Nat) (h : Int) (vl ve : Value) (lv : List IvlD) (items : List EItem) (b off : Nat) (v : List UInt8) (first : Bool) (w : World) (M : GMem w p n h vl ve lv items) (hx : w.cell? ⟨b, off, none⟩ = some (.string (bs v))) :
  Calls Tryz.prog 116 #[.pointer (some ⟨p, 0, none⟩), .slice (some ⟨b, off, none⟩) 1 1, .bool first] w (ReadOut p (n + 1) (stepG (gOf h lv items) first [v]) w) := by
 have HN : Hid (stepG (gOf h lv items) first [v] = none) := Lib.hid (by
  simp only [stepG, numsB_nil, stepN]
  simp)
 have hpw := M.le
 clear M
 have hnum := fun many => wordNums_any (some ⟨b, off, none⟩) 0 [] many w ⟨Nat.le_refl _, Nat.zero_le _, SlAt.nil⟩ (by simp) (fun x h => by simp at h)
 have e1 : numsR [] 1 = ([], false) := rfl
 have e2 : numsR [] 2 = ([], false) := rfl
 have e4 : numsR [] 4 = ([], false) := rfl
 have e0 : numsR [] 0 = ([], true) := rfl
 have h1 := hnum 1; have h2 := hnum 2; have h4 := hnum 4; have h0 := hnum 0
 rw [e1] at h1
 rw [e2] at h2
 rw [e4] at h4
 rw [e0] at h0
 have H1 := Lib.hid h1; have H2 := Lib.hid h2; have H4 := Lib.hid h4; have H0 := Lib.hid h0
 have hblt : b < w.heap.size := World.block_lt_of_cell? w _ hx
 have X := Lib.hid hx
 clear h1 h2 h4 h0 e0 e1 e2 e4 hnum
 have key : ∀ f : Bool, (v == [116, 105, 109, 101]) = true ∨ ((v == [116, 105, 109, 101]) = false ∧ (v == [118, 101, 114, 116, 101, 120]) = true) ∨ ((v == [116, 105, 109, 101]) = false ∧ (v == [118, 101, 114, 116, 101, 120]) = false ∧ (v == [101, 100, 103, 101]) = true) ∨
   ((v == [116, 105, 109, 101]) = false ∧ (v == [118, 101, 114, 116, 101, 120]) = false ∧ (v == [101, 100, 103, 101]) = false ∧ (v == [108, 101, 103]) = true) ∨ ((v == [116, 105, 109, 101]) = false ∧ (v == [118, 101, 114, 116, 101, 120]) = false ∧ (v == [101, 100, 103, 101]) = false ∧ (v == [108, 101, 103]) = false) := fun _ => by
  cases (v == [116, 105, 109, 101]) <;> cases (v == [118, 101, 114, 116, 101, 120]) <;> cases (v == [101, 100, 103, 101]) <;> cases (v == [108, 101, 103]) <;> simp
 rcases key true with q1 | ⟨q1, q2⟩ | ⟨q1, q2, q3⟩ | ⟨q1, q2, q3, q4⟩ | ⟨q1, q2, q3, q4⟩
 ·go_enter Tryz.func116, Tryz.ntmps116
  go_wp2_with fail
  refine H1.out.mono ?_
  rintro e w5 ⟨A5, c5, rfl, _, hb5⟩
  go_wp2_with fail
  go_ret
  exact read_none HN.out (hb5.mono (Nat.le_of_lt hpw)) rfl
 ·go_enter Tryz.func116, Tryz.ntmps116
  go_wp2_with fail
  refine H2.out.mono ?_
  rintro e w5 ⟨A5, c5, rfl, _, hb5⟩
  go_wp2_with fail
  go_ret
  exact read_none HN.out (hb5.mono (Nat.le_of_lt hpw)) rfl
 ·go_enter Tryz.func116, Tryz.ntmps116
  go_wp2_with fail
  refine H2.out.mono ?_
  rintro e w5 ⟨A5, c5, rfl, _, hb5⟩
  go_wp2_with fail
  go_ret
  exact read_none HN.out (hb5.mono (Nat.le_of_lt hpw)) rfl
 ·go_enter Tryz.func116, Tryz.ntmps116
  go_wp2_with fail
  refine H4.out.mono ?_
  rintro e w5 ⟨A5, c5, rfl, _, hb5⟩
  go_wp2_with fail
  go_ret
  exact read_none HN.out (hb5.mono (Nat.le_of_lt hpw)) rfl
 ·go_enter Tryz.func116, Tryz.ntmps116
  go_wp2_with fail
  refine H0.out.mono ?_
  rintro e w5 ⟨A5, c5, rfl, _, hb5⟩
  go_wp2_with fail
  go_ret
  exact read_none HN.out (hb5.mono (Nat.le_of_lt hpw)) rfl
theorem read_any (p n : Nat) (h : Int) (vl ve : Value) (lv : List IvlD) (items : List EItem) (b off c : Nat) (v : List UInt8) (ws : List (List UInt8)) (first : Bool) (w : World) (M : GMem w p n h vl ve lv items) (hS : StrsAt w (some ⟨b, off, none⟩) c (v :: ws)) (hl : ws.length ≤ 100000) (hs : ∀ x, x ∈ ws → x.length ≤ 100000) (hn : n ≤ 10000) :
  Calls Tryz.prog 116 #[.pointer (some ⟨p, 0, none⟩), .slice (some ⟨b, off, none⟩) (ws.length + 1) c, .bool first] w (ReadOut p (n + 1) (stepG (gOf h lv items) first (v :: ws)) w) := by
 have hcl : ws.length + 1 ≤ c := by simpa using hS.lc
 by_cases hc1 : 1 < c
 case neg =>
  obtain rfl : c = 1 := by omega
  obtain rfl : ws = [] := List.eq_nil_of_length_eq_zero (by omega)
  exact read_short p n h vl ve lv items b off v first w M (by
   obtain ⟨b', off', e, _, hc⟩ := hS.get (k := 0) rfl
   obtain ⟨rfl, rfl⟩ : b = b' ∧ off = off' := by simpa using e
   simpa using hc)
 by_cases h1 : v = wTime
 ·exact read_time p n h vl ve lv items b off c v ws first w M hS hl hs hn hc1 (Lib.hid h1)
 by_cases h2 : v = wVertex
 ·exact read_vertex p n h vl ve lv items b off c v ws first w M hS hl hs hn hc1 (Lib.hid h2)
 by_cases h3 : v = wEdge
 ·exact read_edge p n h vl ve lv items b off c v ws first w M hS hl hs hn hc1 (Lib.hid h3)
 by_cases h4 : v = wLeg
 ·exact read_leg p n h vl ve lv items b off c v ws first w M hS hl hs hn hc1 (Lib.hid h4)
 exact read_other p n h vl ve lv items b off c v ws first w M hS hl hs hn hc1 (Lib.hid ⟨h1, h2, h3, h4⟩)
end Go.Proofs.YtjcimdpldlamfaaGreatDoor
