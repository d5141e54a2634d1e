/- The walks of journey.Out and of the document's Outs: they tell the same list. -/
import Derived.Test.YtcgnalpcbcpmkaaPlace
import Derived.Test.YtcgnalpcbcpmkaaSpec3
import Derived.Test.YtcgnalpcbcpmkaaOwn
import Derived.Test.YtcgnalpcbcpmkaaRefGo
import Derived.Test.YtcgnalpcbcpmkaaGo
namespace Go.Proofs.Ytcgnalpcbcpmkaa
open Go.RowKit

theorem info_hop : (Try.prog.info? 46).map (fun i => (i.zero, i.size, i.bytes)) = some (some (.agg #[.int .i64 0, .int .i64 0]), 2, 16) := by kernel_rfl
theorem hop_one {a b : Int} : ∀ u ∈ (#[.int .i64 a, .int .i64 b] : Array Value).toList, u.oneCell' = true := by simp [Value.oneCell']
theorem hopEnc_len (x : HopD) : (hopEnc x).length = 2 := rfl
/-- A list of hops and an error are told. -/
def HopsOut (l : List HopD) (er : Int) (w : World) (e : Ending) (w' : World) : Prop := ∃ A c, e = .returned (.tuple #[.slice A l.length c, .int .i64 er]) ∧ SlAt RHop 2 w' A l ∧ l.length ≤ maxLen ∧ Below w.heap.size w w'
def HopsOut1 (l : List HopD) (w : World) (e : Ending) (w' : World) : Prop := ∃ A c, e = .returned (.slice A l.length c) ∧ SlAt RHop 2 w' A l ∧ l.length ≤ maxLen ∧ Below w.heap.size w w'
theorem own_hops {w : World} {base : Nat} {v : Value} {l : List HopD} (h : Own hopEnc 2 w base 46 v l) (hi : ∀ x, x ∈ l → I64 x.edge ∧ I64 x.depart) : ∃ A c, v = .slice A l.length c ∧ SlAt RHop 2 w A l :=
  h.slAt hopEnc_len fun x hx b o hc => ⟨⟨by simpa using hc 0 _ rfl, by simpa using hc 1 _ rfl⟩, hi x hx⟩
theorem outs_small {g : GraphD} {v t : Int} (hV : Valid g) (h0 : 0 ≤ t) (h1 : t < g.h) : (outs g v t).length ≤ 3000 ∧ ∀ x, x ∈ outs g v t → I64 x.edge ∧ I64 x.depart := by
  have hh := hV.h1; have hne := hV.ne
  unfold outs
  split
  · have hl := outsL_len (g := g) (v := v) (g.h - t).toNat t
    have hm : (g.h - t).toNat * g.edges.length ≤ 100 * 30 := Nat.mul_le_mul (by omega) hne
    refine ⟨by omega, fun x hx => ?_⟩
    obtain ⟨h2, h3, h4⟩ := (outsL_mem _ _).1 hx
    obtain ⟨_, k, y, hk, he, _⟩ := (outsAt_mem _ _).1 h4
    have := lt_of_get hk
    exact ⟨⟨by omega, by omega⟩, by unfold I64; omega⟩
  · exact ⟨by simp, by simp⟩

set_option maxRecDepth 100000 in
set_option maxHeartbeats 2000000 in
theorem refOuts_any (A A' : Option Addr) (c c' : Nat) (g : GraphD) (v t : Int) (w : World) (hG : GraphAt w A c A' c' g) (h0 : placeErr g v t = 0) :
    Calls Try.prog 40 #[gV A c A' c' g, .int .i64 v, .int .i64 t] w (HopsOut1 (outs g v t) w) := by
  obtain ⟨hV, hv, ht⟩ := place_of h0
  obtain ⟨hv0, hv1⟩ := hv
  obtain ⟨ht0, ht1⟩ := ht
  have hh := hV.h1
  have hne := hV.ne
  have HSM := Lib.hid (outs_small (v := v) hV ht0 ht1)
  obtain ⟨i0, hi, hz0, hz1, hz2⟩ := info_parts info_hop
  cases hal : aliveB g v t
  case false =>
    have HO : Hid (outs g v t = []) := Lib.hid (by simp [outs, hal])
    go_enter Try.func40, Try.ntmps40
    go_wp2_with fail
    refine (refAlive_any _ _ _ _ g v t _ (hG.ext (by go_grown)) hv0 hv1).mono ?_
    rintro e w1 ⟨rfl, hb1⟩
    have hb2 : Below w.heap.size w w1 := ext_trans (by go_grown) hb1
    go_wp2_with fail
    go_ret
    rw [HO.out]
    exact ⟨none, 0, rfl, SlAt.nil, by simp, hb2⟩
  have HO : Hid (outs g v t = outsL g v (g.h - t).toNat t) := Lib.hid (by simp [outs, hal])
  go_enter Try.func40, Try.ntmps40
  go_wp2_with fail
  refine (refAlive_any _ _ _ _ g v t _ (hG.ext (by go_grown)) hv0 hv1).mono ?_
  rintro e w1 ⟨rfl, hb1⟩
  obtain ⟨B0, c1, c2, c3⟩ := (Blk.new w 28 (gC A c A' c' g)).go hb1
  have hb2 : Below (w.heap.size + 1) (w.alloc (.cells (gC A c A' c' g) 28)) w1 := by simpa using hb1
  go_wp2_with fail
  clear hal c1 c2 c3 hb1
  go_loopw [7, 8] (fun o d wr => ∃ (n : Nat) (y : Int) (acc : List HopD), n ≤ 100 ∧ d = .int .i64 y ∧ y + n = g.h ∧ 0 ≤ y ∧ Hid (acc ++ outsL g v n y = outs g v t) ∧ Own hopEnc 2 wr (w.heap.size + 1) 46 o acc ∧ Below (w.heap.size + 1) (w.alloc (.cells (gC A c A' c' g) 28)) wr)
    (fun _ d _ => (g.h - intOf d).toNat)
  case atStart => exact ⟨(g.h - t).toNat, t, [], by omega, rfl, by omega, ht0, Lib.hid (by rw [HO.out]; rfl), Own.nil, hb2⟩
  case round =>
    clear hb2 B0
    obtain ⟨n, y, acc, hn, rfl, hny, hy0, HI, hown, hb⟩ := hrel
    have hbw : Below w.heap.size w wr := (Below.refl _ _).alloc (Nat.le_refl _) _ |>.trans (hb.mono (by omega))
    have B0 := (Blk.new w 28 (gC A c A' c' g)).below hb (by omega)
    obtain ⟨b1, b2, b3⟩ := B0.facts
    by_cases hlt : y < g.h
    case neg =>
      have hE : Hid (acc = outs g v t) := Lib.hid (by
        obtain rfl : n = 0 := by omega
        simpa [outsL] using HI.out)
      go_wp2_with fail
      go_ret
      obtain ⟨Ao, co, rfl, hS⟩ := own_hops hown (by rw [hE.out]; exact HSM.out.2)
      rw [hE.out] at hS ⊢
      exact ⟨Ao, co, rfl, hS, Nat.le_trans HSM.out.1 (by unfold maxLen; omega), hbw⟩
    obtain ⟨m, rfl⟩ : ∃ m, n = m + 1 := ⟨n - 1, by omega⟩
    have hGr := hG.ext hbw
    obtain ⟨wo, rfl⟩ : ∃ wo : World, wo = wr := ⟨_, rfl⟩
    go_wp2_with fail
    go_loopw [7, 9] (fun o k wr => ∃ (j : Nat) (acc2 : List HopD), j ≤ g.edges.length ∧ k = .int .i64 j ∧ Hid (acc2 ++ (outsAt g v y j (g.edges.drop j) ++ outsL g v m (y + 1)) = outs g v t) ∧ Own hopEnc 2 wr (w.heap.size + 1) 46 o acc2 ∧ Below (w.heap.size + 1) (w.alloc (.cells (gC A c A' c' g) 28)) wr)
      (fun _ k _ => g.edges.length - (intOf k).toNat)
    case atStart => exact ⟨0, acc, Nat.zero_le _, rfl, Lib.hid (by rw [← HI.out, outsL]; rfl), hown, hb⟩
    case round =>
      clear hown HI hb hbw B0 b1 b2 b3 hGr
      obtain ⟨j, acc2, hj, rfl, HI, hown, hb⟩ := hrel
      have hbw : Below w.heap.size w wr := (Below.refl _ _).alloc (Nat.le_refl _) _ |>.trans (hb.mono (by omega))
      have B0 := (Blk.new w 28 (gC A c A' c' g)).below hb (by omega)
      obtain ⟨b1, b2, b3⟩ := B0.facts
      have hzw : w.heap.size + 1 ≤ wr.heap.size := by have := hb.size; simpa using this
      have hacc : acc2.length ≤ 3000 := by
        have h1 := HSM.out.1
        rw [← HI.out, List.length_append] at h1
        omega
      by_cases hltj : j < g.edges.length
      case neg =>
        go_wp2_with fail
        go_roundw
        case rel =>
          refine ⟨m, y + 1, acc2, by omega, by go_num, by omega, by omega, Lib.hid ?_, hown, hb⟩
          rw [← HI.out, drop_end (by omega)]
          rfl
        case measure => simp [intOf]; omega
      obtain ⟨x, hx⟩ := get_lt hltj
      have HX := Lib.hid hx
      have hxe : EdgeOk g x := hV.edges x (List.mem_of_getElem? hx)
      obtain ⟨be, oe, hE⟩ := hG.edges
      obtain ⟨rfl, hbe, ⟨⟨x0, x1, L, cl, x2, hl1, hl2, hL⟩, _⟩⟩ := hE _ x hx
      have k0 := x0.now hbw
      have hd := drop_cons hx
      have HI2 : Hid (acc2 ++ (outsAt g v y j (x :: g.edges.drop (j + 1)) ++ outsL g v m (y + 1)) = outs g v t) := by rw [← hd]; exact HI
      have hyI : I64 y := ⟨by omega, by omega⟩
      clear hE hx hd HI x1 x2
      have hjI : 0 ≤ (j : Int) := by omega
      cases har : arrive g x y with
      | none =>
        have HAR := Lib.hid har
        have HB := Lib.hid (leavesB_none (v := v) har)
        clear har
        go_wp2_with fail
        refine (lands_no_any _ _ _ _ g x j y _ (hG.ext hbw) hV hjI (by simpa using HX.out) hyI HAR.out).mono ?_
        rintro e w5 ⟨rfl, hb5⟩
        go_wp2_with fail
        go_roundw
        case rel => exact ⟨j + 1, acc2, by omega, by go_num, Lib.hid (by rw [← HI2.out, outsAt_no HB.out]), hown.ext hb5, hb.trans (hb5.mono hzw)⟩
        case measure => simp [intOf]; omega
      | some p =>
        obtain ⟨lg, to⟩ := p
        have HAR := Lib.hid har
        by_cases hxa : x.a = v
        case neg =>
          have HB := Lib.hid (leavesB_other (g := g) (d := y) hxa)
          clear har
          go_wp2_with fail
          refine (lands_yes_any _ _ _ _ g x j y lg to _ (hG.ext hbw) hV hjI (by simpa using HX.out) hyI HAR.out).mono ?_
          rintro e w5 ⟨rfl, hb5⟩
          obtain ⟨B1, f1, f2, f3⟩ := B0.go hb5
          have k0' := x0.now (ext_trans hbw hb5)
          go_wp2_with fail
          go_roundw
          case rel => exact ⟨j + 1, acc2, by omega, by go_num, Lib.hid (by rw [← HI2.out, outsAt_no HB.out]), hown.ext hb5, hb.trans (hb5.mono hzw)⟩
          case measure => simp [intOf]; omega
        case pos =>
          have HB := Lib.hid (leavesB_some har hxa)
          clear har
          have hxe2 : (x.a == v) = true := by simp [hxa]
          have HXA := Lib.hid hxa
          clear hxa
          go_wp2_with fail
          refine (lands_yes_any _ _ _ _ g x j y lg to _ (hG.ext hbw) hV hjI (by simpa using HX.out) hyI HAR.out).mono ?_
          rintro e w5 ⟨rfl, hb5⟩
          obtain ⟨B1, f1, f2, f3⟩ := B0.go hb5
          have k0' := x0.now (ext_trans hbw hb5)
          have hown5 := hown.ext hb5
          have hz5 := hb5.size
          go_wp2_with (at_builtin; refine wpList_append_el (enc := hopEnc) rfl (.tmp 51) (.tmp 55) 36 rfl (w.heap.size + 1) 46 i0 _ 2 16 Try.underlying36 hi hz0 hz1 hz2 rfl (by decide) _ acc2 ⟨j, y⟩ rfl hown5 _ rfl _ rfl rfl rfl hop_one (by omega) (by decide) (by omega) ?_; intro v' w6 hown6 hb6)
          go_roundw
          case rel => exact ⟨j + 1, acc2 ++ [⟨j, y⟩], by omega, by go_num, Lib.hid (by rw [← HI2.out, outsAt_yes HB.out]; simp), hown6, (hb.trans (hb5.mono hzw)).trans hb6⟩
          case measure => simp [intOf]; omega
end Go.Proofs.Ytcgnalpcbcpmkaa
