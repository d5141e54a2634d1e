/- Several texts in one: TwiceSpec, Rev. -/
import Derived.IntWalk
import Derived.Test.YtcgnalpcbcpmkaaBd2643a67226
import Derived.Test.YtcgnalpcbcpmkaaBded4119261a
import Derived.Test.YtcgnalpcbcpmkaaBd97b53d9a67
import Derived.Test.YtcgnalpcbcpmkaaBd449dd27526
/- Time turned round twice is time; no program in sight. -/
namespace Go.Proofs.Ytcgnalpcbcpmkaa

section
variable {g : GraphD}
theorem rev_arrive_c (hV : Valid g) {x : EdgeD} (hx : x ∈ g.edges) {t u : Int} {l : LegD} (h : arrive g x t = some (l, u)) :
    ∃ y, y ∈ (revD g).edges ∧ y.a = x.b ∧ y.b = x.a ∧ ∃ l', arrive (revD g) y (g.h - 1 - u) = some (l', g.h - 1 - t) ∧ l'.cost = l.cost := by
  obtain ⟨h1, h2, h3, h4, h5, h6, h7⟩ := arrive_some h
  have ho := hV.edges x hx
  have h8 := ho.legs l h1
  have hlt : (backLeg g.h l).f < (backLeg g.h l).t := by simp only [backLeg]; omega
  refine ⟨⟨x.b, x.a, [backLeg g.h l]⟩, mem_rev.2 ⟨x, l, hx, h1, hlt, rfl⟩, rfl, rfl, backLeg g.h l, ?_, rfl⟩
  have e1 : leaves (g.h - 1 - u) [backLeg g.h l] = some (backLeg g.h l) := leaves_hit (by simp only [backLeg]; omega)
  have e2 : g.h - 1 - u + (backLeg g.h l).time = g.h - 1 - t := by simp only [backLeg]; omega
  unfold arrive
  simp only [e1]
  rw [e2, rev_alive, rev_alive, if_pos ⟨h7, by simp only [revD]; omega, h6⟩]
theorem rev_back_c (hV : Valid g) {y : EdgeD} (hy : y ∈ (revD g).edges) {s r : Int} {l' : LegD} (h : arrive (revD g) y s = some (l', r)) :
    ∃ x l, x ∈ g.edges ∧ x.a = y.b ∧ x.b = y.a ∧ arrive g x (g.h - 1 - r) = some (l, g.h - 1 - s) ∧ l.cost = l'.cost := by
  obtain ⟨x, l, hx, hl, hlt, rfl⟩ := mem_rev.1 hy
  obtain ⟨h1, h2, h3, h4, h5, h6, h7⟩ := arrive_some h
  obtain rfl : l' = backLeg g.h l := by simpa using h1
  have ho := hV.edges x hx
  have h8 := ho.legs l hl
  simp only [backLeg] at h2 h3 h4
  simp only [revD] at h5
  refine ⟨x, l, hx, rfl, rfl, ?_, rfl⟩
  have e1 : g.h - 1 - r + l.time = g.h - 1 - s := by omega
  have ha : aliveB g x.a (g.h - 1 - r) = true := by
    have := rev_alive (g := g) (v := x.a) (t := g.h - 1 - r)
    rw [show g.h - 1 - (g.h - 1 - r) = r by omega] at this
    rw [← this]; exact h7
  have hb : aliveB g x.b (g.h - 1 - s) = true := by
    have := rev_alive (g := g) (v := x.b) (t := g.h - 1 - s)
    rw [show g.h - 1 - (g.h - 1 - s) = s by omega] at this
    rw [← this]; exact h6
  rw [arrive_leg ho hl (by omega) (by omega) ha (by omega) (by rw [e1]; exact hb), e1]
theorem rev2_len : (revD (revD g)).edges.length ≤ (revD g).edges.length := by
  have key : ∀ l : List EdgeD, (∀ y, y ∈ l → y.legs.length = 1) → (l.flatMap (backEdges (revD g).h)).length ≤ l.length := by
    intro l
    induction l with
    | nil => intro _; simp
    | cons y l ih =>
      intro h
      have h1 := ih fun z hz => h z (by simp [hz])
      have h2 := h y (by simp)
      have h3 : (backEdges (revD g).h y).length ≤ y.legs.length := List.length_filterMap_le _ _
      rw [List.flatMap_cons, List.length_append, List.length_cons]
      omega
  refine key _ fun y hy => ?_
  obtain ⟨x, l, _, _, _, rfl⟩ := mem_rev.1 hy
  rfl
theorem rev2_lives : (revD (revD g)).lives = g.lives := by
  show (g.lives.map (backLife g.h)).map (backLife g.h) = g.lives
  rw [List.map_map]
  have : ∀ l : List IvlD, l.map (backLife g.h ∘ backLife g.h) = l := by
    intro l
    induction l with
    | nil => rfl
    | cons x l ih =>
      rw [List.map_cons, ih]
      cases x
      simp only [Function.comp, backLife, List.cons.injEq, IvlD.mk.injEq, and_true]
      omega
  exact this _
theorem rev2_alive (v t : Int) : aliveB (revD (revD g)) v t = aliveB g v t := by
  unfold aliveB
  rw [rev2_lives]
theorem rev2_arcs (hV : Valid g) (hV1 : Valid (revD g)) (y : Arc (Nat × Nat)) : CostA (revD (revD g)) lCost y ↔ CostA g lCost y := by
  constructor
  · rintro (⟨v, t, rfl, h1, h2, h3⟩ | ⟨z, l, to, t, hz, ha, rfl⟩)
    · rw [rev2_lives] at h1
      rw [rev2_alive] at h3
      exact .inl ⟨v, t, rfl, h1, h2, h3⟩
    · obtain ⟨y, l1, hy, e1, e2, ha1, c1⟩ := rev_back_c hV1 hz ha
      obtain ⟨x, l2, hx, e3, e4, ha2, c2⟩ := rev_back_c hV hy ha1
      have k1 : g.h - 1 - ((revD g).h - 1 - (t : Int)) = t := by show g.h - 1 - (g.h - 1 - (t : Int)) = t; omega
      have k2 : g.h - 1 - ((revD g).h - 1 - to) = to := by show g.h - 1 - (g.h - 1 - to) = to; omega
      rw [k1, k2] at ha2
      refine .inr ⟨x, l2, to, t, hx, ha2, ?_⟩
      rw [e3, e2, ← e1, e4]
      simp only [lCost]
      rw [c2, c1]
  · rintro (⟨v, t, rfl, h1, h2, h3⟩ | ⟨x, l, to, t, hx, ha, rfl⟩)
    · exact .inl ⟨v, t, rfl, by rw [rev2_lives]; exact h1, h2, by rw [rev2_alive]; exact h3⟩
    · obtain ⟨y, hy, e1, e2, l1, ha1, c1⟩ := rev_arrive_c hV hx ha
      obtain ⟨z, hz, e3, e4, l2, ha2, c2⟩ := rev_arrive_c hV1 hy ha1
      have k1 : (revD g).h - 1 - (g.h - 1 - (t : Int)) = t := by show g.h - 1 - (g.h - 1 - (t : Int)) = t; omega
      have k2 : (revD g).h - 1 - (g.h - 1 - to) = to := by show g.h - 1 - (g.h - 1 - to) = to; omega
      rw [k1, k2] at ha2
      refine .inr ⟨z, l2, to, t, hz, ha2, ?_⟩
      rw [e3, e2, e4, e1]
      simp only [lCost]
      rw [c2, c1]
theorem rev2_cost (hV : Valid g) (hV1 : Valid (revD g)) {v s : Int} {d : Nat × Nat → Int} (h : CostL (revD (revD g)) lCost v s d) : CostL g lCost v s d := by
  have hi : initC (revD (revD g)) v s = initC g v s := by funext p; unfold initC; rw [rev2_alive]
  unfold CostL at h ⊢
  rw [hi] at h
  have hA : CostA (revD (revD g)) lCost = CostA g lCost := funext fun y => propext (rev2_arcs hV hV1 y)
  rw [hA] at h
  exact h
theorem rev2_costs (hV : Valid g) (hV1 : Valid (revD g)) {v s : Int} {l r : List Int} (h : CostsL g lCost v s l) (k : CostsL (revD (revD g)) lCost v s r) : l = r := by
  obtain ⟨d, h1, rfl⟩ := h
  obtain ⟨e, k1, rfl⟩ := k
  rw [h1.eq (rev2_cost hV hV1 k1)]
  unfold leastL
  rw [rev2_lives]
  rfl
theorem rev2_early (hV : Valid g) (hV1 : Valid (revD g)) (hV2 : Valid (revD (revD g))) {v s : Int} (hv : 0 ≤ v ∧ v < g.lives.length) (hs : 0 ≤ s ∧ s < g.h) {a b r : List Int} (ha : EarlyL g v s a) (hb : EarlyL (revD (revD g)) v s b)
    (k : CostsL (revD (revD g)) lCost v s r) : a = b := by
  obtain ⟨e, k1, _⟩ := k
  rw [ha.eq (soonL_early hV (light_cost hV) (rev2_cost hV hV1 k1) hv hs), hb.eq (soonL_early hV2 (light_cost hV2) k1 (by rw [rev2_lives]; exact hv) hs)]
  unfold soonL
  rw [rev2_lives]
  rfl
theorem rev2_place (hV : Valid g) (hV2 : Valid (revD (revD g))) (v s : Int) : placeErr (revD (revD g)) v s = placeErr g v s := by
  unfold placeErr
  rw [valid_ok hV, valid_ok hV2, rev2_lives]
  rfl
end
end Go.Proofs.Ytcgnalpcbcpmkaa
/- The walk of turn.Reverse. -/
namespace Go.Proofs.Ytcgnalpcbcpmkaa
open Go.RowKit

def revOut (g : GraphD) : GraphD := if revErr g = 0 then revD g else zeroG
theorem take_snoc {α : Type} {l : List α} {k : Nat} {x : α} (h : l[k]? = some x) : l.take (k + 1) = l.take k ++ [x] := by rw [List.take_add_one, h]; rfl
theorem max_if (u : Int) : (if (0 : Int) < u then u else 0) = max 0 u := by split <;> omega

set_option maxRecDepth 100000 in
set_option maxHeartbeats 8000000 in
theorem reverse_any (A A' : Option Addr) (c c' : Nat) (g : GraphD) (w : World) (hG : GraphAt w A c A' c' g) :
    Calls Try.prog 61 #[gV A c A' c' g] w (GraphErr (revOut g) (revErr g) w) := by
  have m1 : g.lives.length ≤ 9223372036854775807 := Nat.le_trans hG.lc hG.cm
  have m2 : g.edges.length ≤ 9223372036854775807 := Nat.le_trans hG.lc' hG.cm'
  by_cases h0 : graphErr g = 0
  case neg =>
    have HE : Hid (revErr g = graphErr g) := Lib.hid (by unfold revErr; rw [if_neg h0])
    have HO : Hid (revOut g = zeroG) := Lib.hid (by unfold revOut; rw [if_neg (by rw [HE.out]; exact h0)])
    have hn : (graphErr g != 0) = true := by simp [h0]
    clear h0
    go_enter Try.func61, Try.ntmps61
    go_wp2_with fail
    refine (check_any _ _ _ _ g _ (hG.ext (by go_grown))).mono ?_
    rintro e w1 ⟨rfl, hb1⟩
    have hbw : Below w.heap.size w w1 := ext_trans (by go_grown) hb1
    obtain ⟨B2, s1, s2, s3⟩ := Blk.go (g := w.heap.size + 1) (t := 28) (cs := #[.int .i64 0, .slice none 0 0, .slice none 0 0]) (Blk.new_ (by simp)) hb1
    go_wp2_with fail
    rw [HE.out, HO.out]
    refine bodyPost_ret (v := .tuple #[gV none 0 none 0 zeroG, .int .i64 (graphErr g)]) (by simp [results, Try.results61, go_sem, s1, s2, s3, zeroG]) rfl ?_
    exact ⟨none, 0, none, 0, rfl, zero_at _, ((hbw.setCell (by simp) _).setCell (by simp) _).setCell (by simp) _⟩
  have hV := valid_of h0
  have H0 := Lib.hid h0
  have hh1 := hV.h1
  have hh0 := hV.h0
  have hn12 := hV.nl
  have hne := hV.ne
  clear h0
  obtain ⟨i0, hi, hz0, hz1, hz2⟩ := info_ivl2
  obtain ⟨j0, hje, hy0, hy1, hy2⟩ := info_edge2
  go_enter Try.func61, Try.ntmps61
  go_wp2_with fail
  refine (check_any _ _ _ _ g _ (hG.ext (by go_grown))).mono ?_
  rw [H0.out]
  rintro e w1 ⟨rfl, hb1⟩
  have hbw : Below w.heap.size w w1 := ext_trans (by go_grown) hb1
  obtain ⟨B2, s1, s2, s3⟩ := Blk.go (g := w.heap.size + 1) (t := 28) (cs := #[.int .i64 0, .slice none 0 0, .slice none 0 0]) (Blk.new_ (by simp)) hb1
  obtain ⟨B0, c1, c2, c3⟩ := Blk.go (g := w.heap.size) (t := 28) (cs := gC A c A' c' g) ((Blk.new _ _ _).alloc _) hb1
  clear hb1
  go_wp2_with fail
  have B5 := Blk.new w1 28 #[.int .i64 g.h, .slice none 0 0, .slice none 0 0]
  have B2 := B2.alloc (Obj.cells #[.int .i64 g.h, .slice none 0 0, .slice none 0 0] 28)
  have B0 := B0.alloc (Obj.cells #[.int .i64 g.h, .slice none 0 0, .slice none 0 0] 28)
  have hbw := ext_alloc hbw (Obj.cells #[.int .i64 g.h, .slice none 0 0, .slice none 0 0] 28)
  have hz : w1.heap.size + 1 ≤ (w1.alloc (Obj.cells #[.int .i64 g.h, .slice none 0 0, .slice none 0 0] 28)).heap.size := by simp
  have hw1 : w.heap.size + 1 < w1.heap.size := s3
  obtain ⟨g5, hg5⟩ : ∃ g5, g5 = w1.heap.size := ⟨_, rfl⟩
  rw [← hg5] at B5 hz hw1 ⊢
  clear hg5 s1 s2 s3 c1 c2 c3
  go_loopw [25] (fun x wr => ∃ (k : Nat) (vl : Value) (lv : List IvlD), k ≤ g.lives.length ∧ x = .int .i64 k ∧ Hid (lv = (g.lives.map (backLife g.h)).take k) ∧ lv.length ≤ 12 ∧ Own ivlC 2 wr (g5 + 1) 110 vl lv ∧ Blk wr g5 28 #[.int .i64 g.h, vl, .slice none 0 0] ∧
    Blk wr (w.heap.size + 1) 28 #[.int .i64 0, .slice none 0 0, .slice none 0 0] ∧ Blk wr w.heap.size 28 (gC A c A' c' g) ∧ Below w.heap.size w wr ∧ g5 + 1 ≤ wr.heap.size) (fun x _ => g.lives.length - (intOf x).toNat)
  case atStart => exact ⟨0, _, [], Nat.zero_le _, rfl, Lib.hid (by simp), by simp, Own.nil, B5, B2, B0, hbw, hz⟩
  case round =>
    clear B5 B2 B0 hbw hz
    obtain ⟨k, vl, lv, hk, rfl, HLV, hlv, hown, B5, B2, B0, hbw, hz⟩ := hrel
    obtain ⟨f1, f2, f3⟩ := B5.facts
    obtain ⟨c1, c2, c3⟩ := B0.facts
    by_cases hlt : k < g.lives.length
    case pos =>
      obtain ⟨bl, ol, hL⟩ := hG.lives
      obtain ⟨y, hy⟩ := get_lt hlt
      obtain ⟨rfl, hbl, ⟨⟨x0, x1⟩, _⟩⟩ := hL k y hy
      have y0 := x0.now hbw
      have y1 := x1.now hbw
      have hyv := hV.lives y (List.mem_of_getElem? hy)
      have HN : Hid (lv ++ [⟨g.h - y.t, g.h - y.f⟩] = (g.lives.map (backLife g.h)).take (k + 1)) := Lib.hid (by rw [HLV.out, take_snoc (x := backLife g.h y) (by simp [hy])]; rfl)
      have hlk : lv.length ≤ k := by rw [HLV.out, List.length_take]; omega
      have hw1 : IntKind.i64.wrap (g.h - y.t) = g.h - y.t := IntWalk.i64_in _ (by omega)
      have hw2 : IntKind.i64.wrap (g.h - y.f) = g.h - y.f := IntWalk.i64_in _ (by omega)
      obtain ⟨Av, dv, rfl⟩ := hown.form
      have B5a := B5.alloc (Obj.cells #[.int .i64 y.f, .int .i64 y.t] 110)
      have B2a := B2.alloc (Obj.cells #[.int .i64 y.f, .int .i64 y.t] 110)
      have B0a := B0.alloc (Obj.cells #[.int .i64 y.f, .int .i64 y.t] 110)
      clear hL hy x0 x1
      go_wp2_with (at_builtin; refine wpList_append_els (enc := ivlC) rfl (.tmp 30) (.tmp 42) 25 rfl (g5 + 1) 110 i0 _ 2 16 Try.underlying25 hi hz0 hz1 hz2 rfl (by decide) _ lv [⟨g.h - y.t, g.h - y.f⟩] 1 rfl rfl (hown.alloc _) _ rfl (wr.heap.size + 1) (by simp) rfl rfl two_one (by omega) (by decide) (Nat.le_trans hz (by simp)) ?_; intro v' w6 hown6 hb6 hkp; obtain ⟨Aw, dw, rfl⟩ := hown6.form; have B5b := hkp _ _ _ B5a (by decide); obtain ⟨r1, r2, r3⟩ := B5b.facts)
      have B2b := hkp _ _ _ B2a (by decide)
      have B0b := hkp _ _ _ B0a (by decide)
      have hbw6 : Below w.heap.size w w6 := (ext_alloc hbw _).trans (hb6.mono (by omega))
      have hz6 : g5 + 1 ≤ w6.heap.size := Nat.le_trans (by simp; omega) hb6.size
      go_roundw
      case rel =>
        refine ⟨k + 1, _, lv ++ [⟨g.h - y.t, g.h - y.f⟩], by omega, by go_num, HN, by simp; omega, hown6.keep (keep_store B5b (by decide) 1 _), by simpa using B5b.set_ 1 (.slice Aw (lv ++ [(⟨g.h - y.t, g.h - y.f⟩ : IvlD)]).length dw), B2b.far (by simp; omega) _, B0b.far (by simp; omega) _, hbw6.setCell (by simp; omega) _, by simpa using hz6⟩
      case measure => simp [intOf]; omega
    case neg =>
      have HL : Hid (lv = (revD g).lives) := Lib.hid (by rw [HLV.out, List.take_of_length_le (by simp; omega)]; rfl)
      clear HLV
      go_wp2_with fail
      go_loopw [49] (fun x wr => ∃ (j : Nat) (ve : Value) (items : List EItem), j ≤ g.edges.length ∧ x = .int .i64 j ∧ Hid (items.map Prod.fst = (g.edges.take j).flatMap (backEdges g.h)) ∧ items.length ≤ 6 * j ∧ Own ivlC 2 wr (g5 + 1) 110 vl lv ∧ Own eEnc 3 wr (g5 + 1) 99 ve items ∧ LegsAt wr items ∧ Blk wr g5 28 #[.int .i64 g.h, vl, ve] ∧ Blk wr (w.heap.size + 1) 28 #[.int .i64 0, .slice none 0 0, .slice none 0 0] ∧ Blk wr w.heap.size 28 (gC A c A' c' g) ∧ Below w.heap.size w wr ∧ g5 + 1 ≤ wr.heap.size) (fun x _ => g.edges.length - (intOf x).toNat)
      case atStart => exact ⟨0, _, [], Nat.zero_le _, rfl, Lib.hid (by simp), by simp, hown, Own.nil, LegsAt.nil, B5, B2, B0, hbw, hz⟩
      case round =>
        clear hown B5 B2 B0 hbw hz f1 f2 f3 c1 c2 c3
        obtain ⟨j, ve, items, hj, rfl, HIT, hil, hown, hownE, hlegs, B5, B2, B0, hbw, hz⟩ := hrel
        obtain ⟨f1, f2, f3⟩ := B5.facts
        obtain ⟨c1, c2, c3⟩ := B0.facts
        by_cases hlt2 : j < g.edges.length
        case neg =>
          have HE : Hid (items.map Prod.fst = (revD g).edges) := Lib.hid (by rw [HIT.out, List.take_of_length_le (by omega)]; rfl)
          clear HIT
          obtain rfl := HL.out
          have hlen : (revD g).edges.length = items.length := by rw [← HE.out, List.length_map]
          have HLEN := Lib.hid hlen
          obtain ⟨Av, dv, rfl⟩ := hown.form
          obtain ⟨Ae, de, rfl⟩ := hownE.form
          obtain ⟨s1, s2, s3⟩ := B2.facts
          have hli : ∀ x, x ∈ (revD g).lives → I64 x.f ∧ I64 x.t := fun x hx => by
            simp only [revD, List.mem_map] at hx
            obtain ⟨l0, h0, rfl⟩ := hx
            have := hV.lives l0 h0
            simp only [backLife, I64]
            omega
          have hei : ∀ it, it ∈ items → I64 it.1.a ∧ I64 it.1.b ∧ ∀ x, x ∈ it.1.legs → LegI x := fun it hm => by
            have h1 : it.1 ∈ (revD g).edges := by rw [← HE.out]; exact List.mem_map_of_mem hm
            obtain ⟨x, l, hx, hl, hlt, he⟩ := mem_rev.1 h1
            have ho := hV.edges x hx
            have h2 := ho.a0; have h3 := ho.a1; have h4 := ho.b0; have h5 := ho.b1
            have h6 := ho.legs l hl
            rw [he]
            refine ⟨⟨by simp only; omega, by simp only; omega⟩, ⟨by simp only; omega, by simp only; omega⟩, fun z hz => ?_⟩
            obtain rfl : z = backLeg g.h l := by simpa using hz
            have h7 := max0 (g.h - l.t - l.time)
            have h8 : (backLeg g.h l).f = max 0 (g.h - l.t - l.time) := rfl
            have h9 : (backLeg g.h l).t = g.h - l.f - l.time := rfl
            have h10 : (backLeg g.h l).time = l.time := rfl
            have h11 : (backLeg g.h l).cost = l.cost := rfl
            unfold LegI I64
            rw [h8, h9, h10, h11]
            rcases h7 with ⟨h7, _⟩ | ⟨h7, _⟩ <;> (rw [h7]; omega)
          have HLI := Lib.hid hli
          have HEI := Lib.hid hei
          clear hli hei hlen
          by_cases hbig : 30 < items.length
          case pos =>
            have hbd : decide (((items.length : Nat) : Int) > 30) = true := by simp; omega
            have HER : Hid (revErr g = 2) := Lib.hid (by unfold revErr; rw [if_pos H0.out, if_pos (by rw [HLEN.out]; exact hbig)])
            have HRO : Hid (revOut g = zeroG) := Lib.hid (by unfold revOut; rw [if_neg (by rw [HER.out]; decide)])
            go_wp2_with fail
            rw [HER.out, HRO.out]
            refine bodyPost_ret (v := .tuple #[gV none 0 none 0 zeroG, .int .i64 2]) (by simp [results, Try.results61, go_sem, s1, s2, s3, zeroG]) rfl ?_
            exact ⟨none, 0, none, 0, rfl, zero_at _, ((hbw.setCell (by simp) _).setCell (by simp) _).setCell (by simp) _⟩
          case neg =>
            have hbd : decide (((items.length : Nat) : Int) > 30) = false := by simp; omega
            have HER : Hid (revErr g = 0) := Lib.hid (by unfold revErr; rw [if_pos H0.out, if_neg (by rw [HLEN.out]; exact hbig)])
            have HRO : Hid (revOut g = revD g) := Lib.hid (by unfold revOut; rw [if_pos HER.out])
            have hrv := hown.room
            have hre := hownE.room
            go_wp2_with fail
            rw [HER.out, HRO.out]
            refine bodyPost_ret (v := .tuple #[.agg #[.int .i64 g.h, .slice Av (revD g).lives.length dv, .slice Ae items.length de], .int .i64 0]) (by simp [results, Try.results61, go_sem, s1, s2, s3]) rfl ?_
            have K : ∀ (t : TypeId) b cs, t ≠ 28 → Blk wr b t cs → Blk (((wr.setCell ⟨w.heap.size + 1, 0, none⟩ (.int .i64 g.h)).setCell ⟨w.heap.size + 1, 1, none⟩ (.slice Av (revD g).lives.length dv)).setCell ⟨w.heap.size + 1, 2, none⟩ (.slice Ae items.length de)) b t cs := fun t b cs ht h => by
              have hne := blk_ne h B2 ht
              exact ((h.far hne _).far hne _).far hne _
            obtain ⟨Av', dv', hvv, hSv⟩ := own_lives (hown.keep (fun b cs h => K _ b cs (by decide) h)) HLI.out
            obtain ⟨Ae', de', hee, hSe⟩ := own_edges (hownE.keep (fun b cs h => K _ b cs (by decide) h)) (hlegs.keep (fun b cs h => K _ b cs (by decide) h)) HEI.out
            simp only [Value.slice.injEq, true_and] at hvv hee
            obtain ⟨rfl, rfl⟩ := hvv
            obtain ⟨rfl, rfl⟩ := hee
            rw [HE.out] at hSe
            refine ⟨Av, dv, Ae, de, by rw [← HLEN.out]; rfl, ⟨⟨by simp only [revD]; omega, by simp only [revD]; omega⟩, hrv.1, hrv.2, by rw [HLEN.out]; exact hre.1, hre.2, hSv, hSe⟩, ((hbw.setCell (by simp) _).setCell (by simp) _).setCell (by simp) _⟩
        obtain ⟨be, oe, hE⟩ := hG.edges
        obtain ⟨y, hy⟩ := get_lt hlt2
        obtain ⟨rfl, hbe, ⟨⟨x0, x1, L, cl, x2, hl1, hl2, hL⟩, _⟩⟩ := hE j y hy
        have y0 := x0.now hbw
        have y1 := x1.now hbw
        have y2 := x2.now hbw
        have hyo := hV.edges y (List.mem_of_getElem? hy)
        have HY := Lib.hid hy
        have hl6 := hyo.six
        clear hE hy x0 x1 x2
        go_wp2_with fail
        obtain ⟨gy, hgy⟩ : ∃ gy, gy = wr.heap.size := ⟨_, rfl⟩
        have HGY : Hid (some gy ≠ ve.ownBlock) := Lib.hid (hownE.block_lt (by omega))
        have BY := Blk.new wr 99 #[.int .i64 y.a, .int .i64 y.b, .slice L y.legs.length cl]
        have hown := hown.alloc (Obj.cells #[.int .i64 y.a, .int .i64 y.b, .slice L y.legs.length cl] 99)
        have hownE := hownE.alloc (Obj.cells #[.int .i64 y.a, .int .i64 y.b, .slice L y.legs.length cl] 99)
        have hlegs := hlegs.keep (fun _ _ h => h.alloc (Obj.cells #[.int .i64 y.a, .int .i64 y.b, .slice L y.legs.length cl] 99))
        have B5 := B5.alloc (Obj.cells #[.int .i64 y.a, .int .i64 y.b, .slice L y.legs.length cl] 99)
        have B2 := B2.alloc (Obj.cells #[.int .i64 y.a, .int .i64 y.b, .slice L y.legs.length cl] 99)
        have B0 := B0.alloc (Obj.cells #[.int .i64 y.a, .int .i64 y.b, .slice L y.legs.length cl] 99)
        have hbw := ext_alloc hbw (Obj.cells #[.int .i64 y.a, .int .i64 y.b, .slice L y.legs.length cl] 99)
        have hz : g5 + 1 ≤ (wr.alloc (Obj.cells #[.int .i64 y.a, .int .i64 y.b, .slice L y.legs.length cl] 99)).heap.size := Nat.le_trans hz (by simp)
        have hzy : gy < (wr.alloc (Obj.cells #[.int .i64 y.a, .int .i64 y.b, .slice L y.legs.length cl] 99)).heap.size := by rw [hgy]; simp
        have hgy5 : g5 < gy := by omega
        rw [← hgy] at BY ⊢
        clear hgy f1 f2 f3 c1 c2 c3
        go_loopw [56] (fun x wr => ∃ (q : Nat) (ve : Value) (items : List EItem), q ≤ y.legs.length ∧ x = .int .i64 q ∧ Hid (items.map Prod.fst = (g.edges.take j).flatMap (backEdges g.h) ++ (y.legs.take q).filterMap (backEdge g.h y)) ∧ items.length ≤ 6 * j + q ∧ Hid (some gy ≠ ve.ownBlock) ∧
          Blk wr gy 99 #[.int .i64 y.a, .int .i64 y.b, .slice L y.legs.length cl] ∧ Own ivlC 2 wr (g5 + 1) 110 vl lv ∧ Own eEnc 3 wr (g5 + 1) 99 ve items ∧ LegsAt wr items ∧ Blk wr g5 28 #[.int .i64 g.h, vl, ve] ∧ Blk wr (w.heap.size + 1) 28 #[.int .i64 0, .slice none 0 0, .slice none 0 0] ∧ Blk wr w.heap.size 28 (gC A c (some ⟨be, oe, none⟩) c' g) ∧ Below w.heap.size w wr ∧ g5 + 1 ≤ wr.heap.size) (fun x _ => y.legs.length - (intOf x).toNat)
        case atStart => exact ⟨0, _, items, Nat.zero_le _, rfl, Lib.hid (by rw [HIT.out]; simp), by omega, HGY, BY, hown, hownE, hlegs, B5, B2, B0, hbw, hz⟩
        case round =>
          clear hown hownE hlegs BY HGY B5 B2 B0 hbw hz HIT hil hzy
          obtain ⟨q, ve, items, hq, rfl, HIT, hil, HGY, BY, hown, hownE, hlegs, B5, B2, B0, hbw, hz⟩ := hrel
          obtain ⟨f1, f2, f3⟩ := B5.facts
          obtain ⟨c1, c2, c3⟩ := B0.facts
          obtain ⟨e1, e2, e3⟩ := BY.facts
          by_cases hlt3 : q < y.legs.length
          case neg =>
            have HN : Hid (items.map Prod.fst = (g.edges.take (j + 1)).flatMap (backEdges g.h)) := Lib.hid (by
              rw [HIT.out, take_snoc HY.out, List.flatMap_append, List.take_of_length_le (l := y.legs) (show y.legs.length ≤ q by omega)]
              simp [backEdges])
            go_wp2_with fail
            go_roundw
            case rel => exact ⟨j + 1, ve, items, by omega, by go_num, HN, by omega, hown, hownE, hlegs, B5, B2, B0, hbw, hz⟩
            case measure => simp [intOf]; omega
          obtain ⟨bl, ol, hLL⟩ := hL
          obtain ⟨z, hz1'⟩ := get_lt hlt3
          obtain ⟨rfl, hbl, ⟨⟨x0, x1, x2, x3⟩, _⟩⟩ := hLL q z hz1'
          have z0 := x0.now hbw
          have z1 := x1.now hbw
          have z2 := x2.now hbw
          have z3 := x3.now hbw
          have hzl := hyo.legs z (List.mem_of_getElem? hz1')
          have HZ := Lib.hid hz1'
          obtain ⟨l0, l1, l2, l3, l4, l5, l6⟩ := hzl
          have hw1 : IntKind.i64.wrap (g.h - z.t) = g.h - z.t := IntWalk.i64_in _ (by omega)
          have hw2 : IntKind.i64.wrap (g.h - z.t - z.time) = g.h - z.t - z.time := IntWalk.i64_in _ (by omega)
          have hw3 : IntKind.i64.wrap (g.h - z.f) = g.h - z.f := IntWalk.i64_in _ (by omega)
          have hw4 : IntKind.i64.wrap (g.h - z.f - z.time) = g.h - z.f - z.time := IntWalk.i64_in _ (by omega)
          have HTK := Lib.hid (take_snoc HZ.out)
          clear hLL hz1' x0 x1 x2 x3
          by_cases hmx : (0 : Int) < g.h - z.t - z.time
          case pos =>
            have HBF : Hid ((g.h - z.t - z.time) = (backLeg g.h z).f) := Lib.hid (by show g.h - z.t - z.time = max 0 (g.h - z.t - z.time); omega)
            by_cases hcond : (g.h - z.t - z.time) < g.h - z.f - z.time
            case neg => exact absurd (by omega) hcond
            case pos =>
              have hcd : decide ((g.h - z.t - z.time) < g.h - z.f - z.time) = true := by simpa using hcond
              have HBE : Hid (backEdge g.h y z = some ⟨y.b, y.a, [backLeg g.h z]⟩) := Lib.hid (by unfold backEdge; exact if_pos (by rw [← HBF.out]; exact hcond))
              have HN : Hid ((items ++ [((⟨y.b, y.a, [backLeg g.h z]⟩, some ⟨wr.heap.size + 1 + 1, 0, none⟩, 1) : EItem)]).map Prod.fst = (g.edges.take j).flatMap (backEdges g.h) ++ (y.legs.take (q + 1)).filterMap (backEdge g.h y)) := Lib.hid (by
                rw [List.map_append, HIT.out, HTK.out, List.filterMap_append]
                simp [HBE.out])
              obtain ⟨Av, dv, rfl⟩ := hown.form
              obtain ⟨Ae, de, rfl⟩ := hownE.form
              have BL : Blk (((wr.alloc (Obj.cells #[.int .i64 z.f, .int .i64 z.t, .int .i64 z.time, .int .i64 z.cost] 114)).alloc (Obj.cells #[.int .i64 (g.h - z.t - z.time), .int .i64 (g.h - z.f - z.time), .int .i64 z.time, .int .i64 z.cost] 114)).alloc (Obj.cells #[.int .i64 (g.h - z.t - z.time), .int .i64 (g.h - z.f - z.time), .int .i64 z.time, .int .i64 z.cost] 114)) (wr.heap.size + 1 + 1) 114 #[.int .i64 (g.h - z.t - z.time), .int .i64 (g.h - z.f - z.time), .int .i64 z.time, .int .i64 z.cost] := Blk.new_ (by simp)
              have B5a := ((B5.alloc (Obj.cells #[.int .i64 z.f, .int .i64 z.t, .int .i64 z.time, .int .i64 z.cost] 114)).alloc (Obj.cells #[.int .i64 (g.h - z.t - z.time), .int .i64 (g.h - z.f - z.time), .int .i64 z.time, .int .i64 z.cost] 114)).alloc (Obj.cells #[.int .i64 (g.h - z.t - z.time), .int .i64 (g.h - z.f - z.time), .int .i64 z.time, .int .i64 z.cost] 114)
              have BYa := ((BY.alloc (Obj.cells #[.int .i64 z.f, .int .i64 z.t, .int .i64 z.time, .int .i64 z.cost] 114)).alloc (Obj.cells #[.int .i64 (g.h - z.t - z.time), .int .i64 (g.h - z.f - z.time), .int .i64 z.time, .int .i64 z.cost] 114)).alloc (Obj.cells #[.int .i64 (g.h - z.t - z.time), .int .i64 (g.h - z.f - z.time), .int .i64 z.time, .int .i64 z.cost] 114)
              have B5n : some g5 ≠ (Value.slice Ae items.length de).ownBlock := hownE.other B5 (by decide)
              have hgs : gy < wr.heap.size := BY.lt
              go_wp2_with (at_builtin; refine wpList_append_lie (enc := eEnc) rfl (.tmp 88) (.tmp 96) 26 rfl (g5 + 1) 99 j0 _ 3 40 Try.underlying26 hje hy0 hy1 hy2 rfl (by decide) _ items (⟨y.b, y.a, [backLeg g.h z]⟩, some ⟨wr.heap.size + 1 + 1, 0, none⟩, 1) rfl (((hownE.alloc _).alloc _).alloc _) _ rfl (wr.heap.size + 1 + 1 + 1) (by simp) rfl rfl three_one (by omega) (by decide) (Nat.le_trans hz (by simp; omega)) ?_; intro gn cap w6 hown6 hb6 hkp hgn; have B5b := hkp _ _ _ B5a B5n; obtain ⟨r1, r2, r3⟩ := B5b.facts)
              have hX : ∀ (b : Nat) (t' : TypeId) (cs' : Array Value), Blk (((wr.alloc (Obj.cells #[.int .i64 z.f, .int .i64 z.t, .int .i64 z.time, .int .i64 z.cost] 114)).alloc (Obj.cells #[.int .i64 (g.h - z.t - z.time), .int .i64 (g.h - z.f - z.time), .int .i64 z.time, .int .i64 z.cost] 114)).alloc (Obj.cells #[.int .i64 (g.h - z.t - z.time), .int .i64 (g.h - z.f - z.time), .int .i64 z.time, .int .i64 z.cost] 114)) b t' cs' → t' ≠ 99 → Blk w6 b t' cs' := fun b t' cs' hB ht => hkp b t' cs' hB ((((hownE.alloc (Obj.cells #[.int .i64 z.f, .int .i64 z.t, .int .i64 z.time, .int .i64 z.cost] 114)).alloc (Obj.cells #[.int .i64 (g.h - z.t - z.time), .int .i64 (g.h - z.f - z.time), .int .i64 z.time, .int .i64 z.cost] 114)).alloc (Obj.cells #[.int .i64 (g.h - z.t - z.time), .int .i64 (g.h - z.f - z.time), .int .i64 z.time, .int .i64 z.cost] 114)).other hB ht)
              have BYb := hkp _ _ _ BYa HGY.out
              have BLb := hX _ _ _ BL (by decide)
              have B2b := hX _ _ _ (((B2.alloc (Obj.cells #[.int .i64 z.f, .int .i64 z.t, .int .i64 z.time, .int .i64 z.cost] 114)).alloc (Obj.cells #[.int .i64 (g.h - z.t - z.time), .int .i64 (g.h - z.f - z.time), .int .i64 z.time, .int .i64 z.cost] 114)).alloc (Obj.cells #[.int .i64 (g.h - z.t - z.time), .int .i64 (g.h - z.f - z.time), .int .i64 z.time, .int .i64 z.cost] 114)) (by decide)
              have B0b := hX _ _ _ (((B0.alloc (Obj.cells #[.int .i64 z.f, .int .i64 z.t, .int .i64 z.time, .int .i64 z.cost] 114)).alloc (Obj.cells #[.int .i64 (g.h - z.t - z.time), .int .i64 (g.h - z.f - z.time), .int .i64 z.time, .int .i64 z.cost] 114)).alloc (Obj.cells #[.int .i64 (g.h - z.t - z.time), .int .i64 (g.h - z.f - z.time), .int .i64 z.time, .int .i64 z.cost] 114)) (by decide)
              have hown6L := (((hown.alloc (Obj.cells #[.int .i64 z.f, .int .i64 z.t, .int .i64 z.time, .int .i64 z.cost] 114)).alloc (Obj.cells #[.int .i64 (g.h - z.t - z.time), .int .i64 (g.h - z.f - z.time), .int .i64 z.time, .int .i64 z.cost] 114)).alloc (Obj.cells #[.int .i64 (g.h - z.t - z.time), .int .i64 (g.h - z.f - z.time), .int .i64 z.time, .int .i64 z.cost] 114)).keep (fun _ _ h => hX _ _ _ h (by decide))
              have hlegs6 := (hlegs.keep (fun _ _ h => ((h.alloc (Obj.cells #[.int .i64 z.f, .int .i64 z.t, .int .i64 z.time, .int .i64 z.cost] 114)).alloc (Obj.cells #[.int .i64 (g.h - z.t - z.time), .int .i64 (g.h - z.f - z.time), .int .i64 z.time, .int .i64 z.cost] 114)).alloc (Obj.cells #[.int .i64 (g.h - z.t - z.time), .int .i64 (g.h - z.f - z.time), .int .i64 z.time, .int .i64 z.cost] 114))).keep (fun _ _ h => hX _ _ _ h (by decide))
              have hbw6 : Below w.heap.size w w6 := (ext_alloc (ext_alloc (ext_alloc hbw _) _) _).trans (hb6.mono (by omega))
              have hz6 : g5 + 1 ≤ w6.heap.size := Nat.le_trans (Nat.le_trans hz (by simp; omega)) hb6.size
              have HGY2 : Hid (some gy ≠ (Value.slice (some ⟨gn, 0, none⟩) (items.length + 1) cap).ownBlock) := Lib.hid (by
                intro e
                have e' : gy = gn := by simpa [Value.ownBlock] using e
                rcases hgn with h | h
                · exact HGY.out (by rw [e']; exact h.symm)
                · simp at h; omega)
              have HBL : Hid ((#[.int .i64 (g.h - z.t - z.time), .int .i64 (g.h - z.f - z.time), .int .i64 z.time, .int .i64 z.cost] : Array Value) = (#[.int .i64 (backLeg g.h z).f, .int .i64 (backLeg g.h z).t, .int .i64 (backLeg g.h z).time, .int .i64 (backLeg g.h z).cost] : Array Value)) := Lib.hid (by rw [← HBF.out]; rfl)
              rw [HBL.out] at BLb
              go_roundw
              case rel =>
                refine ⟨q + 1, _, items ++ [((⟨y.b, y.a, [backLeg g.h z]⟩, some ⟨wr.heap.size + 1 + 1, 0, none⟩, 1) : EItem)], by omega, by go_num, HN, by simp; omega, HGY2, BYb.far (by simp; omega) _, hown6L.keep (keep_store B5b (by decide) 2 _), hown6.keep (keep_store B5b (by decide) 2 _),
                  (hlegs6.snoc (it := (⟨y.b, y.a, [backLeg g.h z]⟩, some ⟨wr.heap.size + 1 + 1, 0, none⟩, 1)) ⟨LOwn.one BLb, by simp, by simp [maxLen]⟩).keep (keep_store B5b (by decide) 2 _),
                  by simpa using B5b.set_ 2 (.slice (some ⟨gn, 0, none⟩) (items.length + 1) cap), B2b.far (by simp; omega) _, B0b.far (by simp; omega) _, hbw6.setCell (by simp; omega) _, by simpa using hz6⟩
              case measure => simp [intOf]; omega
          case neg =>
            have HBF : Hid ((0 : Int) = (backLeg g.h z).f) := Lib.hid (by show (0 : Int) = max 0 (g.h - z.t - z.time); omega)
            by_cases hcond : (0 : Int) < g.h - z.f - z.time
            case neg =>
              have hcd : decide ((0 : Int) < g.h - z.f - z.time) = false := by simpa using hcond
              have HN : Hid (items.map Prod.fst = (g.edges.take j).flatMap (backEdges g.h) ++ (y.legs.take (q + 1)).filterMap (backEdge g.h y)) := Lib.hid (by
                rw [HIT.out, HTK.out, List.filterMap_append]
                have : backEdge g.h y z = none := by unfold backEdge; rw [← HBF.out]; exact if_neg hcond
                simp [this])
              go_wp2_with fail
              go_roundw
              case rel => exact ⟨q + 1, ve, items, by omega, by go_num, HN, by omega, HGY, (BY.alloc _).alloc _, (hown.alloc _).alloc _, (hownE.alloc _).alloc _, hlegs.keep (fun _ _ h => (h.alloc _).alloc _), (B5.alloc _).alloc _, (B2.alloc _).alloc _, (B0.alloc _).alloc _, ext_alloc (ext_alloc hbw _) _, Nat.le_trans hz (by simp; omega)⟩
              case measure => simp [intOf]; omega
            case pos =>
              have hcd : decide ((0 : Int) < g.h - z.f - z.time) = true := by simpa using hcond
              have HBE : Hid (backEdge g.h y z = some ⟨y.b, y.a, [backLeg g.h z]⟩) := Lib.hid (by unfold backEdge; exact if_pos (by rw [← HBF.out]; exact hcond))
              have HN : Hid ((items ++ [((⟨y.b, y.a, [backLeg g.h z]⟩, some ⟨wr.heap.size + 1 + 1, 0, none⟩, 1) : EItem)]).map Prod.fst = (g.edges.take j).flatMap (backEdges g.h) ++ (y.legs.take (q + 1)).filterMap (backEdge g.h y)) := Lib.hid (by
                rw [List.map_append, HIT.out, HTK.out, List.filterMap_append]
                simp [HBE.out])
              obtain ⟨Av, dv, rfl⟩ := hown.form
              obtain ⟨Ae, de, rfl⟩ := hownE.form
              have BL : Blk (((wr.alloc (Obj.cells #[.int .i64 z.f, .int .i64 z.t, .int .i64 z.time, .int .i64 z.cost] 114)).alloc (Obj.cells #[.int .i64 (0 : Int), .int .i64 (g.h - z.f - z.time), .int .i64 z.time, .int .i64 z.cost] 114)).alloc (Obj.cells #[.int .i64 (0 : Int), .int .i64 (g.h - z.f - z.time), .int .i64 z.time, .int .i64 z.cost] 114)) (wr.heap.size + 1 + 1) 114 #[.int .i64 (0 : Int), .int .i64 (g.h - z.f - z.time), .int .i64 z.time, .int .i64 z.cost] := Blk.new_ (by simp)
              have B5a := ((B5.alloc (Obj.cells #[.int .i64 z.f, .int .i64 z.t, .int .i64 z.time, .int .i64 z.cost] 114)).alloc (Obj.cells #[.int .i64 (0 : Int), .int .i64 (g.h - z.f - z.time), .int .i64 z.time, .int .i64 z.cost] 114)).alloc (Obj.cells #[.int .i64 (0 : Int), .int .i64 (g.h - z.f - z.time), .int .i64 z.time, .int .i64 z.cost] 114)
              have BYa := ((BY.alloc (Obj.cells #[.int .i64 z.f, .int .i64 z.t, .int .i64 z.time, .int .i64 z.cost] 114)).alloc (Obj.cells #[.int .i64 (0 : Int), .int .i64 (g.h - z.f - z.time), .int .i64 z.time, .int .i64 z.cost] 114)).alloc (Obj.cells #[.int .i64 (0 : Int), .int .i64 (g.h - z.f - z.time), .int .i64 z.time, .int .i64 z.cost] 114)
              have B5n : some g5 ≠ (Value.slice Ae items.length de).ownBlock := hownE.other B5 (by decide)
              have hgs : gy < wr.heap.size := BY.lt
              go_wp2_with (at_builtin; refine wpList_append_lie (enc := eEnc) rfl (.tmp 88) (.tmp 96) 26 rfl (g5 + 1) 99 j0 _ 3 40 Try.underlying26 hje hy0 hy1 hy2 rfl (by decide) _ items (⟨y.b, y.a, [backLeg g.h z]⟩, some ⟨wr.heap.size + 1 + 1, 0, none⟩, 1) rfl (((hownE.alloc _).alloc _).alloc _) _ rfl (wr.heap.size + 1 + 1 + 1) (by simp) rfl rfl three_one (by omega) (by decide) (Nat.le_trans hz (by simp; omega)) ?_; intro gn cap w6 hown6 hb6 hkp hgn; have B5b := hkp _ _ _ B5a B5n; obtain ⟨r1, r2, r3⟩ := B5b.facts)
              have hX : ∀ (b : Nat) (t' : TypeId) (cs' : Array Value), Blk (((wr.alloc (Obj.cells #[.int .i64 z.f, .int .i64 z.t, .int .i64 z.time, .int .i64 z.cost] 114)).alloc (Obj.cells #[.int .i64 (0 : Int), .int .i64 (g.h - z.f - z.time), .int .i64 z.time, .int .i64 z.cost] 114)).alloc (Obj.cells #[.int .i64 (0 : Int), .int .i64 (g.h - z.f - z.time), .int .i64 z.time, .int .i64 z.cost] 114)) b t' cs' → t' ≠ 99 → Blk w6 b t' cs' := fun b t' cs' hB ht => hkp b t' cs' hB ((((hownE.alloc (Obj.cells #[.int .i64 z.f, .int .i64 z.t, .int .i64 z.time, .int .i64 z.cost] 114)).alloc (Obj.cells #[.int .i64 (0 : Int), .int .i64 (g.h - z.f - z.time), .int .i64 z.time, .int .i64 z.cost] 114)).alloc (Obj.cells #[.int .i64 (0 : Int), .int .i64 (g.h - z.f - z.time), .int .i64 z.time, .int .i64 z.cost] 114)).other hB ht)
              have BYb := hkp _ _ _ BYa HGY.out
              have BLb := hX _ _ _ BL (by decide)
              have B2b := hX _ _ _ (((B2.alloc (Obj.cells #[.int .i64 z.f, .int .i64 z.t, .int .i64 z.time, .int .i64 z.cost] 114)).alloc (Obj.cells #[.int .i64 (0 : Int), .int .i64 (g.h - z.f - z.time), .int .i64 z.time, .int .i64 z.cost] 114)).alloc (Obj.cells #[.int .i64 (0 : Int), .int .i64 (g.h - z.f - z.time), .int .i64 z.time, .int .i64 z.cost] 114)) (by decide)
              have B0b := hX _ _ _ (((B0.alloc (Obj.cells #[.int .i64 z.f, .int .i64 z.t, .int .i64 z.time, .int .i64 z.cost] 114)).alloc (Obj.cells #[.int .i64 (0 : Int), .int .i64 (g.h - z.f - z.time), .int .i64 z.time, .int .i64 z.cost] 114)).alloc (Obj.cells #[.int .i64 (0 : Int), .int .i64 (g.h - z.f - z.time), .int .i64 z.time, .int .i64 z.cost] 114)) (by decide)
              have hown6L := (((hown.alloc (Obj.cells #[.int .i64 z.f, .int .i64 z.t, .int .i64 z.time, .int .i64 z.cost] 114)).alloc (Obj.cells #[.int .i64 (0 : Int), .int .i64 (g.h - z.f - z.time), .int .i64 z.time, .int .i64 z.cost] 114)).alloc (Obj.cells #[.int .i64 (0 : Int), .int .i64 (g.h - z.f - z.time), .int .i64 z.time, .int .i64 z.cost] 114)).keep (fun _ _ h => hX _ _ _ h (by decide))
              have hlegs6 := (hlegs.keep (fun _ _ h => ((h.alloc (Obj.cells #[.int .i64 z.f, .int .i64 z.t, .int .i64 z.time, .int .i64 z.cost] 114)).alloc (Obj.cells #[.int .i64 (0 : Int), .int .i64 (g.h - z.f - z.time), .int .i64 z.time, .int .i64 z.cost] 114)).alloc (Obj.cells #[.int .i64 (0 : Int), .int .i64 (g.h - z.f - z.time), .int .i64 z.time, .int .i64 z.cost] 114))).keep (fun _ _ h => hX _ _ _ h (by decide))
              have hbw6 : Below w.heap.size w w6 := (ext_alloc (ext_alloc (ext_alloc hbw _) _) _).trans (hb6.mono (by omega))
              have hz6 : g5 + 1 ≤ w6.heap.size := Nat.le_trans (Nat.le_trans hz (by simp; omega)) hb6.size
              have HGY2 : Hid (some gy ≠ (Value.slice (some ⟨gn, 0, none⟩) (items.length + 1) cap).ownBlock) := Lib.hid (by
                intro e
                have e' : gy = gn := by simpa [Value.ownBlock] using e
                rcases hgn with h | h
                · exact HGY.out (by rw [e']; exact h.symm)
                · simp at h; omega)
              have HBL : Hid ((#[.int .i64 (0 : Int), .int .i64 (g.h - z.f - z.time), .int .i64 z.time, .int .i64 z.cost] : Array Value) = (#[.int .i64 (backLeg g.h z).f, .int .i64 (backLeg g.h z).t, .int .i64 (backLeg g.h z).time, .int .i64 (backLeg g.h z).cost] : Array Value)) := Lib.hid (by rw [← HBF.out]; rfl)
              rw [HBL.out] at BLb
              go_roundw
              case rel =>
                refine ⟨q + 1, _, items ++ [((⟨y.b, y.a, [backLeg g.h z]⟩, some ⟨wr.heap.size + 1 + 1, 0, none⟩, 1) : EItem)], by omega, by go_num, HN, by simp; omega, HGY2, BYb.far (by simp; omega) _, hown6L.keep (keep_store B5b (by decide) 2 _), hown6.keep (keep_store B5b (by decide) 2 _),
                  (hlegs6.snoc (it := (⟨y.b, y.a, [backLeg g.h z]⟩, some ⟨wr.heap.size + 1 + 1, 0, none⟩, 1)) ⟨LOwn.one BLb, by simp, by simp [maxLen]⟩).keep (keep_store B5b (by decide) 2 _),
                  by simpa using B5b.set_ 2 (.slice (some ⟨gn, 0, none⟩) (items.length + 1) cap), B2b.far (by simp; omega) _, B0b.far (by simp; omega) _, hbw6.setCell (by simp; omega) _, by simpa using hz6⟩
              case measure => simp [intOf]; omega
end Go.Proofs.Ytcgnalpcbcpmkaa
