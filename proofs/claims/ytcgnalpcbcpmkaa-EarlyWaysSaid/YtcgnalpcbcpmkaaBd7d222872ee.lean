/- One text: LawEarlyWays. -/
import Derived.Test.YtcgnalpcbcpmkaaBd4aa05de845
import Derived.Test.YtcgnalpcbcpmkaaBd75e2e67139
/- The walk of the law EarlyWays. -/
namespace Go.Proofs.Ytcgnalpcbcpmkaa
open Go.RowKit

/-- By whom a way has come. -/
theorem WayOk.step {g : GraphD} {v t tz : Int} {l : List Int} {hops : List HopD} (h : WayOk g v t tz l hops) (hV : Valid g) {k : Nat} {y : HopD} (hk : hops[k]? = some y) :
    ∃ x, g.edges[y.edge.toNat]? = some x ∧ bOf g y = x.b ∧ 0 ≤ x.b ∧ x.b < g.lives.length ∧ 0 ≤ y.edge ∧ y.edge ≤ 30 ∧ ¬ x.b ∈ v :: (hops.take k).map (bOf g) := by
  have hm := List.mem_of_getElem? hk
  obtain ⟨x, lg, h1, _⟩ := h.tight y hm
  have ho := hV.edges x (List.mem_of_getElem? h1)
  have hs := h.small y hm
  refine ⟨x, h1, bOf_of h1, ho.b0, ho.b1, hs.1, hs.2.1, fun hin => ?_⟩
  have hl := lt_of_get hk
  have e : v :: hops.map (bOf g) = (v :: (hops.take k).map (bOf g)) ++ (hops.drop k).map (bOf g) := by
    rw [List.cons_append, ← List.map_append, List.take_append_drop]
  have hn := h.once
  rw [e, List.nodup_append] at hn
  refine hn.2.2 _ hin x.b ?_ rfl
  rw [← bOf_of h1]
  refine List.mem_map.2 ⟨y, ?_, rfl⟩
  refine List.mem_of_getElem? (i := 0) ?_
  rw [List.getElem?_drop]
  simpa using hk

set_option maxRecDepth 100000 in
set_option maxHeartbeats 16000000 in
theorem earlyWays_calls (A A' : Option Addr) (c c' : Nat) (g : GraphD) {w : World} (hG : GraphAt w A c A' c' g) (v : Int) (_hv : I64 v) (t : Int) (_ht : I64 t) (u : Int) (_hu : I64 u) :
    Calls Try.prog 17 #[gV A c A' c' g, .int .i64 v, .int .i64 t, .int .i64 u] w fun e w' => e = .returned (.bool true) ∧ Below w.heap.size w w' := by
  have m1 : g.lives.length ≤ 9223372036854775807 := Nat.le_trans hG.lc hG.cm
  go_enter Try.func17, Try.ntmps17
  go_wp2_with fail
  refine (earlyWay_any _ _ _ _ g v t u _ (hG.ext (by go_grown))).mono ?_
  rintro e w1 ⟨hops, Ah, ch, er, hR, rfl, hH, hhm, hb1⟩
  obtain ⟨B0, c1, c2, c3⟩ := (Blk.new w 28 (gC A c A' c' g)).go hb1
  have hbw : Below w.heap.size w w1 := ext_trans (by go_grown) hb1
  have HR := Lib.hid hR
  clear hb1 hR
  go_wp2_with fail
  refine (place_any _ _ _ _ g v t _ (hG.ext hbw)).mono ?_
  by_cases h0 : placeErr g v t = 0
  case neg =>
    have HW : Hid (hops = [] ∧ er = placeErr g v t ∧ WaysSay g v t u [] [] (placeErr g v t) 0 0) := Lib.hid (by
      rcases HR.out with ⟨_, h2, h3⟩ | ⟨h, _⟩
      · exact ⟨h2, h3, .bad h0⟩
      · exact absurd h h0)
    obtain ⟨rfl, rfl, hW⟩ := HW.out
    have HWW := Lib.hid hW
    have hn : (placeErr g v t == 0) = false := by simpa using h0
    have hn2 : (placeErr g v t != 0) = true := by simpa using h0
    clear h0 hW HR
    rintro e w2 ⟨rfl, hb2⟩
    obtain ⟨B0, c1, c2, c3⟩ := B0.go hb2
    have hbw := ext_trans hbw hb2
    have hH := hH.ext RHop.stable hb2
    clear hb2
    go_wp2_with fail
    refine (ways_any A A' none Ah c c' 0 ch 0 0 g v t u [] [] (placeErr g v t) 0 0 _ (hG.ext hbw) SlAt.nil hH hhm rfl rfl HWW.out).mono ?_
    rintro e w3 ⟨rfl, hb2⟩
    have hbw := ext_trans hbw hb2
    clear hb2
    go_wp2_with fail
    go_ret
    exact ⟨by simp, hbw⟩
  case pos =>
    obtain ⟨hV, hvv, htt⟩ := place_of h0
    have hh1 := hV.h1
    have hn12 := hV.nl
    have H0 := Lib.hid h0
    clear h0
    rw [H0.out]
    rintro e w2 ⟨rfl, hb2⟩
    obtain ⟨B0, c1, c2, c3⟩ := B0.go hb2
    have hbw := ext_trans hbw hb2
    have hH := hH.ext RHop.stable hb2
    clear hb2
    go_wp2_with fail
    refine (refArrivals_any _ _ _ _ g v t _ (hG.ext hbw) H0.out).mono ?_
    rintro e w4 ⟨l1, A1, d1, HE1, rfl, hA1, hm1, hb2⟩
    obtain ⟨B0, c1, c2, c3⟩ := B0.go hb2
    have hbw := ext_trans hbw hb2
    have hH := hH.ext RHop.stable hb2
    have HN1 : Hid (l1.length = g.lives.length) := Lib.hid HE1.out.1
    clear hb2
    have HW : Hid (∃ a b, WaysSay g v t u l1 hops er a b ∧ (er = 0 → 0 ≤ u ∧ u < g.lives.length ∧ gi l1 u.toNat = a ∧ WayOk g v t u l1 hops)) := Lib.hid (by
      rcases HR.out with ⟨h, _⟩ | ⟨_, a, ha, h⟩
      · exact absurd H0.out h
      · obtain rfl := ha.eq HE1.out
        rcases h with ⟨h, rfl, rfl⟩ | ⟨h0, h1, h2, rfl, h3⟩
        · exact ⟨0, 0, .none H0.out HN1.out h, fun h => by simp at h⟩
        · obtain ⟨q, hq⟩ := h3.go
          exact ⟨_, _, .some H0.out HN1.out h0 h1 h2 (goR_some H0.out (by have := h3.len; omega) h3.alive hq), fun _ => ⟨h0, h1, rfl, h3⟩⟩)
    obtain ⟨a, b, hW, hW2⟩ := HW.out
    have HW := Lib.hid hW
    have HW2 := Lib.hid hW2
    clear hW hW2 HR
    go_wp2_with fail
    refine (ways_any A A' _ Ah c c' _ ch _ _ g v t u l1 hops er a b _ (hG.ext hbw) hA1 hH hhm rfl rfl HW.out).mono ?_
    rintro e w5 ⟨rfl, hb2⟩
    obtain ⟨B0, c1, c2, c3⟩ := B0.go hb2
    have hbw := ext_trans hbw hb2
    have hA1 := hA1.ext RInt.stable hb2
    have hH := hH.ext RHop.stable hb2
    clear hb2
    by_cases he : er = 0
    case neg =>
      have hd : (er != 0) = true := by simpa using he
      clear he
      go_wp2_with fail
      go_ret
      exact ⟨by simp, hbw⟩
    case pos =>
      subst he
      obtain ⟨hu0, hu1, hbz, hway⟩ := HW2.out rfl
      have hl100 := hway.len
      have HWY := Lib.hid hway
      obtain ⟨i0, hi, hz0, hz1, hz2⟩ := info_parts info_int
      have hvv0 := hvv.1; have hvv1 := hvv.2
      obtain ⟨b1, o1, rfl, hz1', hx1⟩ := hA1.cells (by rw [HN1.out]; omega)
      have y1 := hx1 u.toNat (by rw [HN1.out]; omega)
      rw [hbz] at y1
      have hown : Own intEnc 1 (w5.alloc (Obj.cells #[.int .i64 v] 3)) w5.heap.size 3 (.slice (some ⟨w5.heap.size, 0, none⟩) 1 1) [v] := Own.lit rfl (Nat.le_refl _) rfl rfl rfl (by decide)
      have BG := B0
      have hlen1 := HN1.out
      clear hx1 hbz hway HW2 HW hA1 B0
      go_wp2_with fail
      have hb0 : Below w5.heap.size w5 (w5.alloc (Obj.cells #[.int .i64 v] 3)) := by go_grown
      go_loopw [15, 59] (fun s x wr => ∃ (k : Nat) (lo : List Int), k ≤ hops.length ∧ x = .int .i64 k ∧ Hid (lo = v :: (hops.take k).map (bOf g)) ∧ Hid (lo.length = k + 1) ∧ Own intEnc 1 wr w5.heap.size 3 s lo ∧ Below w5.heap.size w5 wr) (fun _ x _ => hops.length - (intOf x).toNat)
      case atStart => exact ⟨0, [v], Nat.zero_le _, rfl, Lib.hid rfl, Lib.hid rfl, hown, hb0⟩
      case round =>
        clear hown hb0 c1 c2 c3
        obtain ⟨k, lo, hk, rfl, HLO, HLL, hown, hb⟩ := hrel
        obtain ⟨f1, f2, f3⟩ := (BG.ext hb).facts
        have hzs := hb.size
        have hbwr := ext_trans hbw hb
        by_cases hlt : k < hops.length
        case neg =>
          have z1 := cell_keep hb y1
          go_wp2_with fail
          go_ret
          exact ⟨by simp, hbwr⟩
        case pos =>
          obtain ⟨y, hy⟩ := get_lt hlt
          obtain ⟨x, hx, hbx, hb0', hb1', he0, he1, hnin⟩ := HWY.out.step hV hy
          have hne := hV.ne
          have hel := lt_of_get hx
          obtain ⟨bh, oh, hHp⟩ := hH.ext RHop.stable hb
          obtain ⟨rfl, hbh, ⟨⟨x0, x1⟩, hw0, hw1⟩⟩ := hHp k y hy
          unfold cellIs at x0 x1
          clear hHp
          have HN : Hid (lo ++ [x.b] = v :: (hops.take (k + 1)).map (bOf g)) := Lib.hid (by rw [HLO.out, List.take_add_one, hy]; simp [hbx])
          have HI : Hid (∀ z, z ∈ lo → I64 z) := Lib.hid fun z hz => by
            rw [HLO.out] at hz
            rcases List.mem_cons.1 hz with rfl | hz
            · unfold I64; omega
            · obtain ⟨q, hq, rfl⟩ := List.mem_map.1 hz
              obtain ⟨j, hj⟩ := List.getElem?_of_mem (List.mem_of_mem_take hq)
              obtain ⟨x', _, e', k0, k1, _⟩ := HWY.out.step hV hj
              rw [e']; unfold I64; omega
          have hnin' : decide (x.b ∈ lo) = false := by rw [HLO.out]; simpa using hnin
          have HNIN := Lib.hid hnin'
          obtain ⟨be, oe, hE⟩ := hG.edges
          obtain ⟨rfl, hbe, ⟨⟨z0, z1, L, cl, z2, hl1, hl2, hL⟩, _⟩⟩ := hE _ x hx
          have j1 := z1.now hbwr
          have j2 := cell_keep (ext_alloc (Below.refl _ wr) (Obj.cells #[Value.int IntKind.i64 y.edge, Value.int IntKind.i64 y.depart] 46)) j1
          obtain ⟨fa1, fa2, fa3⟩ := ((BG.ext hb).alloc (Obj.cells #[Value.int IntKind.i64 y.edge, Value.int IntKind.i64 y.depart] 46)).facts
          obtain ⟨Ar, cr, rfl, hSr⟩ := own_ints hown HI.out
          have hlc : lo.length + 1 ≤ 1000000 := by rw [HLL.out]; omega
          clear hE hy hx hbx hnin hnin' z0 z1 z2 HLO
          go_wp2_with fail
          refine (containsInts_any _ _ _ lo x.b _ (hSr.ext RInt.stable (by go_grown)) rfl (by unfold maxLen; omega)).mono ?_
          rw [HNIN.out]
          rintro e w6 ⟨rfl, rfl⟩
          go_wp2_with (at_builtin; refine wpList_append_els (enc := intEnc) rfl (.tmp 73) (.tmp 75) 53 rfl w5.heap.size 3 i0 _ 1 8 Try.underlying53 hi hz0 hz1 hz2 rfl (by decide) _ lo [x.b] 1 rfl rfl (hown.alloc _) _ rfl (wr.heap.size + 1) (by simp) rfl rfl int_one1 (by omega) (by decide) (by simp; omega) ?_; intro v' w8 hown8 hb8 hkp8)
          go_roundw
          case rel => exact ⟨k + 1, lo ++ [x.b], by omega, by go_num, HN, Lib.hid (by rw [List.length_append, HLL.out]; rfl), hown8, (ext_alloc hb _).trans hb8⟩
          case measure => simp [intOf]; omega
end Go.Proofs.Ytcgnalpcbcpmkaa
