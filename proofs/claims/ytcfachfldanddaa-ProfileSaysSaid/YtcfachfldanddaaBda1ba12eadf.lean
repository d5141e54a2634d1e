/- Several texts in one: RefArr, RefProf, Reach, LawReach. -/
import Derived.Test.YtcfachfldanddaaBd42ad1f48df
import Derived.Test.YtcfachfldanddaaBdb6eb721802
import Derived.Test.YtcfachfldanddaaBd9eb0a2c71f
import Derived.Test.YtcfachfldanddaaBd0e3b3965a6
import Derived.Test.YtcfachfldanddaaBd112dc8e1cf
import Derived.Test.YtcfachfldanddaaBd5adb79ece2
import Derived.Test.YtcfachfldanddaaBd01c81254c1
import Derived.Test.YtcfachfldanddaaBdecb1d1e777
/- The walk of the document's Arrivals: when something is told of a vertex first. -/
namespace Go.Proofs.Ytcfachfldanddaa
open Go.RowKit

/-- A list of numbers is told. -/
def IntsR (Q : List Int → Prop) (w : World) (e : Ending) (w' : World) : Prop := ∃ l A c, Hid (Q l) ∧ e = .returned (.slice A l.length c) ∧ SlAt RInt 1 w' A l ∧ l.length ≤ maxLen ∧ Below w.heap.size w w'
theorem soonL_get {g : GraphD} {d : Nat × Nat → Int} {k : Nat} (h : k < g.lives.length) : (soonL g d)[k]? = some (soon (fun s => d (k, s)) 0 g.h.toNat) := by simp [soonL, h]
theorem soonL_len (g : GraphD) (d : Nat × Nat → Int) : (soonL g d).length = g.lives.length := by simp [soonL]
theorem soonL_i64 {g : GraphD} {d : Nat × Nat → Int} (hh : g.h ≤ 100) : ∀ x, x ∈ soonL g d → I64 x := fun x hx => by
  simp only [soonL, List.mem_map, List.mem_range] at hx
  obtain ⟨u, _, rfl⟩ := hx
  rcases (soon_spec (f := fun s => d (u, s)) g.h.toNat 0).1 with h | ⟨s, h, _, h2, _⟩
  · rw [h]; unfold I64 Never; omega
  · rw [h]; unfold I64; omega

set_option maxRecDepth 100000 in
set_option maxHeartbeats 8000000 in
theorem refArrivals_any (A A' : Option Addr) (c c' : Nat) (g : GraphD) (v s : Int) (w : World) (hG : GraphAt w A c A' c' g) (h0 : placeErr g v s = 0) :
    Calls Try.prog 58 #[gV A c A' c' g, .int .i64 v, .int .i64 s] w (IntsR (EarlyL g v s) w) := by
  obtain ⟨hV, ⟨hv0, hv1⟩, hs0, hs1⟩ := place_of h0
  have hh1 := hV.h1
  have hhp := hV.h0
  have hn12 := hV.nl
  have m1 : g.lives.length ≤ 9223372036854775807 := by omega
  have H0 := Lib.hid h0
  clear h0
  obtain ⟨i0, hi, hz0, hz1, hz2⟩ := info_parts info_int
  go_enter Try.func58, Try.ntmps58
  go_wp2_with fail
  refine (refSums_any _ _ _ _ g v s _ (hG.ext (by go_grown)) H0.out).mono ?_
  rintro e w1 ⟨C, H, ic, ih, bc, bh, cc, ch, HC, rfl, hOC, _, HL, hTC, _, hcc, hcm, _, _, hb1⟩
  obtain ⟨B0, c1, c2, c3⟩ := (Blk.new w 78 (gC A c A' c' g)).go hb1
  have hbw : Below w.heap.size w w1 := ext_trans (by go_grown) hb1
  clear hb1
  go_wp2_with fail
  go_loopw [9, 10] (fun o x wr => ∃ (k : Nat) (lo : List Int), k ≤ g.lives.length ∧ x = .int .i64 k ∧ Hid (lo = (soonL g C).take k) ∧ lo.length ≤ 12 ∧ Own intEncN 1 wr w1.heap.size 3 o lo ∧ Below w1.heap.size w1 wr) (fun _ x _ => g.lives.length - (intOf x).toNat)
  case atStart => exact ⟨0, [], Nat.zero_le _, rfl, Lib.hid (by simp), by simp, Own.nil, Below.refl _ _⟩
  case round =>
    clear c1 c2 c3
    obtain ⟨k, lo, hk, rfl, HLO, hlo, hown, hb⟩ := hrel
    have hbwr := ext_trans hbw hb
    obtain ⟨f1, f2, f3⟩ := (B0.ext hb).facts
    have hzs := hb.size
    by_cases hlt : k < g.lives.length
    case neg =>
      have HE : Hid (lo = soonL g C) := Lib.hid (by rw [HLO.out, List.take_of_length_le]; rw [soonL_len]; omega)
      obtain ⟨Ar, cr, rfl, hSr⟩ := own_intsN hown (by rw [HE.out]; exact soonL_i64 hh1)
      go_wp2_with fail
      go_ret
      exact ⟨lo, Ar, cr, Lib.hid (by rw [HE.out]; exact soonL_early hV (light_cost hV) HC.out.1 ⟨hv0, hv1⟩ ⟨hs0, hs1⟩), rfl, hSr, by unfold maxLen; omega, hbwr⟩
    case pos =>
      obtain ⟨p, hp⟩ := get_lt (l := ic) (k := k) (by have := HL.out.1; omega)
      have k1 := (hOC.keep fun _ h => h.ext hb).cell hp
      have HT := Lib.hid (hTC.keep fun _ _ h => h.ext hb)
      have HP := Lib.hid hp
      have HN : Hid (lo ++ [soon (fun s => C (k, s)) 0 g.h.toNat] = (soonL g C).take (k + 1)) := Lib.hid (by rw [HLO.out, List.take_add_one, soonL_get hlt]; rfl)
      have hlk : lo.length ≤ k := by rw [HLO.out, List.length_take]; omega
      obtain ⟨Ao2, co2, rfl⟩ := hown.form
      clear hp HLO
      obtain ⟨wo, hwo⟩ : ∃ wo : World, wo = wr := ⟨_, rfl⟩
      rw [← hwo] at hown hb hbwr f1 f2 f3 hzs k1 HT ⊢
      clear hwo
      go_wp2_with fail
      go_loopw [11, 12] (fun n x wr => ∃ (j : Nat) (nn xi : Int), (j : Int) ≤ g.h ∧ xi = (j : Int) - 1 ∧ x = .int .i64 xi ∧ n = .int .i64 nn ∧ Hid (nn = soon (fun s => C (k, s)) j (g.h.toNat - j)) ∧ wr = wo) (fun _ x _ => (intOf x + 1).toNat)
      case atStart => exact ⟨g.h.toNat, Never, g.h - 1, by omega, by omega, rfl, rfl, Lib.hid (by rw [Nat.sub_self]; rfl), rfl⟩
      case round =>
        obtain ⟨j, nn, xi, hj, hxi, rfl, rfl, HJ, rfl⟩ := hrel
        cases j with
        | zero =>
          obtain rfl : xi = -1 := by omega
          have HJ2 : Hid (nn = soon (fun s => C (k, s)) 0 g.h.toNat) := Lib.hid (by rw [HJ.out]; rfl)
          clear hxi HT HP HJ
          go_wp2_with (at_builtin; refine wpList_append_els (enc := intEncN) rfl (.tmp 43) (.tmp 45) 81 rfl w1.heap.size 3 i0 _ 1 8 Try.underlying81 hi hz0 hz1 hz2 rfl (by decide) _ lo [nn] 1 rfl rfl hown _ rfl wr.heap.size (by simp) rfl rfl int_one1N (by omega) (by decide) hzs ?_; intro v' w8 hown8 hb8 hkp8)
          go_roundw
          case rel => exact ⟨k + 1, lo ++ [nn], by omega, by go_num, Lib.hid (by rw [HJ2.out]; exact HN.out), by simp; omega, hown8, hb.trans hb8⟩
          case measure => simp [intOf]; omega
        | succ j =>
          obtain rfl : xi = (j : Int) := by omega
          have k2 := HT.out.cell HP.out (t := j) (by omega)
          have hsub : g.h.toNat - j = (g.h.toNat - (j + 1)) + 1 := by omega
          obtain ⟨z, hz⟩ : ∃ z, C (k, j) = z := ⟨_, rfl⟩
          have HZ := Lib.hid hz
          have HS := Lib.hid hsub
          rw [hz] at k2
          clear hz hsub hxi
          by_cases hzn : z < Never
          case pos =>
            have hd : decide (z < 1099511627776) = true := by simp only [Never] at hzn; simp; omega
            have HJ2 : Hid ((j : Int) = soon (fun s => C (k, s)) j (g.h.toNat - j)) := Lib.hid (by rw [HS.out, soon_yes (by simp only [HZ.out]; exact hzn)])
            clear hzn
            go_wp2_with fail
            go_roundw
            case rel => exact ⟨j, j, (j : Int) - 1, by omega, rfl, by go_num, rfl, HJ2, by trivial⟩
            case measure => first | (simp [intOf]; done) | (simp [intOf]; omega)
          case neg =>
            have hd : decide (z < 1099511627776) = false := by simp only [Never] at hzn; simp; omega
            have HJ2 : Hid (nn = soon (fun s => C (k, s)) j (g.h.toNat - j)) := Lib.hid (by rw [HS.out, soon_no (by simp only [HZ.out]; exact hzn)]; exact HJ.out)
            clear hzn
            go_wp2_with fail
            go_roundw
            case rel => exact ⟨j, nn, (j : Int) - 1, by omega, rfl, by go_num, rfl, HJ2, by trivial⟩
            case measure => first | (simp [intOf]; done) | (simp [intOf]; omega)
end Go.Proofs.Ytcfachfldanddaa
/- The walk of the document's Profile. -/
namespace Go.Proofs.Ytcfachfldanddaa
open Go.RowKit Go.Shelf

/-- The times from 0 to the end of a time. -/
def upTo (k : Nat) : List Int := (List.range k).map fun i : Nat => (i : Int)
theorem upTo_succ (k : Nat) : upTo (k + 1) = upTo k ++ [(k : Int)] := by simp [upTo, List.range_succ]
theorem upTo_len (k : Nat) : (upTo k).length = k := by simp [upTo]
theorem mem_upTo {k : Nat} {x : Int} : x ∈ upTo k ↔ 0 ≤ x ∧ x < k := by
  simp only [upTo, List.mem_map, List.mem_range]
  constructor
  · rintro ⟨i, hi, rfl⟩; omega
  · intro h; exact ⟨x.toNat, by omega, by omega⟩
theorem enters_refProf1 : Enters Try.prog 97 := enters_of Try.func97 (by kernel_rfl) rfl

set_option maxRecDepth 100000 in
set_option maxHeartbeats 8000000 in
theorem refProf1_any (A A' : Option Addr) (c c' : Nat) (g : GraphD) (v u t : Int) (bg bv bu : Nat) (W : World) (hB : Blk W bg 78 (gC A c A' c' g)) (hv : W.cell? ⟨bv, 0, none⟩ = some (.int .i64 v)) (hu : W.cell? ⟨bu, 0, none⟩ = some (.int .i64 u)) (hG : GraphAt W A c A' c' g)
    (hpl : placeErr g v t = 0) (hu0 : 0 ≤ u) (hu1 : u < g.lives.length) :
    Calls Try.prog 97 #[.int .i64 t, .pointer (some ⟨bg, 0, none⟩), .pointer (some ⟨bv, 0, none⟩), .pointer (some ⟨bu, 0, none⟩)] W (CloOut (profF g v u t) W) := by
  have hlv : bv < W.heap.size := World.block_lt_of_cell? W _ hv
  have hlu : bu < W.heap.size := World.block_lt_of_cell? W _ hu
  have hlg := hB.lt
  have hm1 : g.lives.length ≤ 9223372036854775807 := Nat.le_trans hG.lc hG.cm
  have HPL := Lib.hid hpl
  have hAr := refArrivals_any A A' c c' g v t W.drew (hG.ext (below_drew (Below.refl _ _))) hpl
  clear hpl
  have S0 : W.drew.cell? ⟨bg, 0, none⟩ = some (.int .i64 g.h) ∧ W.drew.cell? ⟨bg, 1, none⟩ = some (.slice A g.lives.length c) ∧ W.drew.cell? ⟨bg, 2, none⟩ = some (.slice A' g.edges.length c') ∧ W.drew.cell? ⟨bv, 0, none⟩ = some (.int .i64 v) ∧ W.drew.cell? ⟨bu, 0, none⟩ = some (.int .i64 u) := ⟨hB.cell 0, hB.cell 1, hB.cell 2, hv, hu⟩
  have HUU := Lib.hid hu
  clear hB hv hu
  go_enter Try.func97, Try.ntmps97
  go_wp2_with fail
  obtain ⟨S, hSS⟩ : ∃ S : World → Prop, Hid (S = fun w' => w'.cell? ⟨bg, 0, none⟩ = some (.int .i64 g.h) ∧ w'.cell? ⟨bg, 1, none⟩ = some (.slice A g.lives.length c) ∧ w'.cell? ⟨bg, 2, none⟩ = some (.slice A' g.edges.length c') ∧ w'.cell? ⟨bv, 0, none⟩ = some (.int .i64 v) ∧ w'.cell? ⟨bu, 0, none⟩ = some (.int .i64 u)) := ⟨_, Lib.hid rfl⟩
  have hS0 : S W.drew := by rw [hSS.out]; exact S0
  refine WpN.begin (S := S) 7 (by kernel_rfl) ?_
  refine WpN.takeD (i := 0) (v := ?_) rfl rfl (by kernel_rfl) (fun _ _ _ h => h) (Or.inl ⟨by rfl, ?_⟩) (by assumption) ?_
  rotate_left
  · intro w hSw; rw [hSS.out] at hSw; obtain ⟨sw0, sw1, sw2, sw3, sw4⟩ := hSw; go_simp; try with_reducible rfl
  try simp only [Act.put, List.setIfInBounds_toArray, List.set_cons_zero, List.set_cons_succ]
  refine WpN.takeD (i := 1) (v := ?_) rfl rfl (by kernel_rfl) (fun _ _ _ h => h) (Or.inl ⟨by rfl, ?_⟩) (by assumption) ?_
  rotate_left
  · intro w hSw; rw [hSS.out] at hSw; obtain ⟨sw0, sw1, sw2, sw3, sw4⟩ := hSw; go_simp; try with_reducible rfl
  try simp only [Act.put, List.setIfInBounds_toArray, List.set_cons_zero, List.set_cons_succ]
  refine WpN.takeD (i := 2) (v := ?_) rfl rfl (by kernel_rfl) (fun _ _ _ h => h) (Or.inl ⟨by rfl, ?_⟩) (by assumption) ?_
  rotate_left
  · intro w hSw; rw [hSS.out] at hSw; obtain ⟨sw0, sw1, sw2, sw3, sw4⟩ := hSw; go_simp; try with_reducible rfl
  try simp only [Act.put, List.setIfInBounds_toArray, List.set_cons_zero, List.set_cons_succ]
  refine WpN.takeD (i := 4) (v := ?_) rfl rfl (by kernel_rfl) (fun _ _ _ h => h) (Or.inl ⟨by rfl, ?_⟩) (by assumption) ?_
  rotate_left
  · intro w hSw; rw [hSS.out] at hSw; obtain ⟨sw0, sw1, sw2, sw3, sw4⟩ := hSw; go_simp; try with_reducible rfl
  try simp only [Act.put, List.setIfInBounds_toArray, List.set_cons_zero, List.set_cons_succ]
  refine WpN.one (i := 3) rfl (by kernel_rfl) fun K hK => ?_
  go_wp2_with (first | (refine hAr.mono ?_; rintro e w1 ⟨l, Al, cl, HE, rfl, hA1, hm1', hb1⟩))
  have hlen : l.length = g.lives.length := HE.out.1
  have hS1 : S w1 := by rw [hSS.out]; exact keepB5 (B := W.drew.heap.size) hb1 hlg hlg hlg hlv hlu S0
  obtain ⟨x, hx⟩ := get_lt (show u.toNat < l.length by omega)
  obtain ⟨b, off, hSl⟩ := hA1
  obtain ⟨rfl, hbl, hcx, hx64⟩ := hSl u.toNat x hx
  have hcx : w1.cell? ⟨b, off + u.toNat, none⟩ = some (.int .i64 x) := by have h : cellIs w1 b (off + u.toNat * 1) (.int .i64 x) := hcx; rwa [Nat.mul_one] at h
  have HF : Hid (profF g v u t = if x < Never then some x else none) := Lib.hid (by have := profF_of (u := u) HPL.out HE.out; rwa [gi_of hx] at this)
  have hjl2 : u < (l.length : Int) := by omega
  refine hK.out _ _ ⟨fun _ => hS1, ?_⟩
  clear hK K hSl hx hlen
  refine WpN.one (i := 5) rfl (by kernel_rfl) fun K hK => ?_
  go_wp2_with fail
  refine hK.out _ _ ⟨fun _ => hS1, ?_⟩
  clear hK K
  refine WpN.one (i := 6) rfl (by kernel_rfl) fun K hK => ?_
  go_wp2_with fail
  refine hK.out _ _ ⟨fun _ => hS1, ?_⟩
  clear hK K
  refine WpN.one (i := 7) rfl (by kernel_rfl) fun K hK => ?_
  go_wp2_with fail
  refine hK.out _ _ ⟨fun h => absurd h (by decide), ?_⟩
  refine WpN.done (by kernel_rfl) ?_ _
  clear hK K hSS hS0 hS1
  have hb1' := below_drew (Below.refl W.heap.size W)
  by_cases hn : x < Never
  · have hd5 : decide (x < 1099511627776) = true := by simpa [Never] using hn
    have HN : Hid (profF g v u t = some x) := Lib.hid (by rw [HF.out, if_pos hn])
    clear hn
    go_wp2_with fail
    go_ret2
    exact ⟨x, by rw [HN.out]; rfl, fun y hy => by rw [HN.out] at hy; simpa using hy, ext_trans hb1' hb1⟩
  · have hd5 : decide (x < 1099511627776) = false := by simpa [Never] using hn
    have HN : Hid (profF g v u t = none) := Lib.hid (by rw [HF.out, if_neg hn])
    clear hn
    go_wp2_with fail
    go_ret2
    exact ⟨x, by rw [HN.out]; rfl, fun y hy => by rw [HN.out] at hy; simp at hy, ext_trans hb1' hb1⟩

set_option maxRecDepth 100000 in
set_option maxHeartbeats 8000000 in
theorem refProfile_any (A A' : Option Addr) (c c' : Nat) (g : GraphD) (v u : Int) (w : World) (hG : GraphAt w A c A' c' g) (h0 : graphErr g = 0) (hr : (0 ≤ v ∧ v < g.lives.length) ∧ 0 ≤ u ∧ u < g.lives.length) :
    Calls Try.prog 57 #[gV A c A' c' g, .int .i64 v, .int .i64 u] w fun e w' => ∃ out A2 c2, Hid (MapL out ∧ ∀ t, atM out t = profF g v u t) ∧ e = .returned (.slice A2 out.length c2) ∧ PiecesAt w' A2 c2 out ∧ Below w.heap.size w w' := by
  have hmf : ∀ (fn : Fn) (first cap : Array Value) (w : World), (Instr.makeFunc fn first cap).run Try.prog w = .ok (.func fn first cap) w := fun _ _ _ _ => rfl
  have hent := enters_refProf1
  unfold Enters at hent
  obtain ⟨i0, hi, hz0, hz1, hz2⟩ := info_int2
  have hV := valid_of h0
  have hh1 := hV.h1
  have hhp := hV.h0
  have HG := Lib.hid hG
  have HR := Lib.hid hr
  have H0 := Lib.hid h0
  clear hG hr h0
  go_enter Try.func57, Try.ntmps57
  go_wp2_with fail
  obtain ⟨w0, hw0⟩ : ∃ w0, w0 = (((w.alloc (Obj.cells (gC A c A' c' g) 78)).alloc (Obj.cells #[.int .i64 v] 3)).alloc (Obj.cells #[.int .i64 u] 3)) := ⟨_, rfl⟩
  have hb0 : Below w.heap.size w w0 := by rw [hw0]; go_grown
  have Bg : Blk w0 w.heap.size 78 (gC A c A' c' g) := by rw [hw0]; exact ((Blk.new _ _ _).alloc _).alloc _
  have Bv : Blk w0 (w.heap.size + 1) 3 #[.int .i64 v] := by rw [hw0]; exact (Blk.new_ (by simp)).alloc _
  have Bu : Blk w0 (w.heap.size + 1 + 1) 3 #[.int .i64 u] := by rw [hw0]; exact Blk.new_ (by simp)
  rw [← hw0]
  clear hw0
  go_loopw [7, 8] (fun o x wr => ∃ (k : Nat), (k : Int) ≤ g.h + 1 ∧ x = .int .i64 k ∧ Own intEnc 1 wr w0.heap.size 3 o (upTo k) ∧ Below w0.heap.size w0 wr) (fun _ x _ => (g.h + 1).toNat - (intOf x).toNat)
  case atStart => exact ⟨0, by simp; omega, rfl, Own.nil, Below.refl _ _⟩
  case round =>
    obtain ⟨k, hk, rfl, hO, hb⟩ := hrel
    obtain ⟨c1, c2, c3⟩ := (Bg.ext hb).facts
    have hzw := hb.size
    by_cases hlt : (k : Int) ≤ g.h
    case pos =>
      have hd : decide ((k : Int) ≤ g.h) = true := by simpa using hlt
      have hcl : (upTo k).length + 1 ≤ 1000000 := by rw [upTo_len]; omega
      obtain ⟨a2, ha2⟩ : ∃ a2, a2 = upTo k := ⟨_, rfl⟩
      have HA2 := Lib.hid ha2
      rw [← ha2] at hO hcl
      clear ha2
      go_wp2_with (at_builtin; refine wpList_append_lie (enc := intEnc) rfl (.tmp 15) (.tmp 17) 81 rfl w0.heap.size 3 i0 _ 1 8 Try.underlying81 hi hz0 hz1 hz2 rfl (by decide) _ a2 (k : Int) rfl hO #[.int .i64 k] rfl wr.heap.size rfl rfl rfl int_one1 hcl (by decide) hzw ?_; intro gn cap w6 hown6 hb8 hkp hgn)
      go_roundw
      case rel => exact ⟨k + 1, by omega, by go_num, by rw [upTo_succ, ← HA2.out]; exact hown6, hb.trans hb8⟩
      case measure => simp [intOf]; omega
    case neg =>
      have hd : decide ((k : Int) ≤ g.h) = false := by simpa using hlt
      have hkk : (k : Int) = g.h + 1 := by omega
      obtain ⟨A6, c6, rfl, hI6⟩ := own_ints hO (fun x hx => by have := mem_upTo.1 hx; unfold I64; omega)
      have hb6' := ext_trans hb0 hb
      have Bg := Bg.ext hb; have Bv := Bv.ext hb; have Bu := Bu.ext hb
      have hul : (upTo k).length ≤ 10000 := by rw [upTo_len]; omega
      have hT := told_gen 97 #[.pointer (some ⟨w.heap.size, 0, none⟩), .pointer (some ⟨w.heap.size + 1, 0, none⟩), .pointer (some ⟨w.heap.size + 1 + 1, 0, none⟩)] (profF g v u) hent A6 c6 (upTo k) wr hI6 hul
        (fun D h1 h2 => prof_turns h1 fun x => by rw [h2, mem_upTo]; omega)
        (fun t y hy => near_i64 (profF_near HR.out.2 hy))
        (fun _ _ W => Below wr.heap.size wr W) (fun _ _ h => h) (fun _ _ _ _ h h' => h.trans h')
        (fun D i W x hD hm hb hx hi _ => (refProf1_any A A' c c' g v u x w.heap.size (w.heap.size + 1) (w.heap.size + 1 + 1) W (Bg.ext hb) ((Bv.ext hb).cell 0) ((Bu.ext hb).cell 0) ((HG.out.ext hb6').ext hb)
          (by
            obtain ⟨y, hy⟩ := get_lt hi
            have h1 := mem_upTo.1 ((hm x).1 (List.mem_of_getElem? hx))
            have h2 := mem_upTo.1 ((hm y).1 (List.mem_of_getElem? hy))
            have h3 := rises_lt hD hx hy
            exact placeErr_0 H0.out (by have := HR.out.1; simp [inB]; omega) (by simp [inB]; omega)) HR.out.2.1 HR.out.2.2).mono fun e w' ⟨y, h1, h2, h3⟩ => ⟨y, h1, h2, ext_trans hb h3, Late.of_below h3⟩)
      rw [upTo_len] at hT ⊢
      clear hul hO hb0 hb hkk
      go_wp2_with fail
      refine hT.mono ?_
      rintro e w7 ⟨A7, c7, out, D, i, HO, rfl, hI7, _⟩
      go_wp2_with fail
      go_ret
      exact ⟨out, A7, c7, Lib.hid HO.out.1, rfl, hI7, ext_trans hb6' HO.out.2.1⟩
end Go.Proofs.Ytcfachfldanddaa
/- The walk of profile.Reach: rows of marks. -/
namespace Go.Proofs.Ytcfachfldanddaa
open Go.RowKit

def boolEnc (x : Bool) : List Value := [.bool x]
/-- A row's place: its address and capacity; all rows are of one length. -/
def rowEnc (n : Nat) (it : Option Addr × Nat) : List Value := [.slice it.1 n it.2]
def RItem (n : Nat) (w : World) (b o : Nat) (it : Option Addr × Nat) : Prop := cellIs w b o (.slice it.1 n it.2)
/-- At the address a block of marks begins with the row. -/
def BOwn (w : World) (A : Option Addr) (r : List Bool) : Prop := 0 < r.length → ∃ (g : Nat) (cs : Array Value), A = some ⟨g, 0, none⟩ ∧ Blk w g 4 cs ∧ ∀ (k : Nat) (x : Bool), r[k]? = some x → cs[k]? = some (Value.bool x)
def RowsAt (w : World) (items : List (Option Addr × Nat)) (rs : List (List Bool)) : Prop := items.length = rs.length ∧ ∀ (i : Nat) it r, items[i]? = some it → rs[i]? = some r → BOwn w it.1 r
section
variable {w w' : World} {A : Option Addr} {r : List Bool} {items : List (Option Addr × Nat)} {rs : List (List Bool)} {base : Nat} {v : Value}
theorem BOwn.keep (h : BOwn w A r) (hk : ∀ b cs, Blk w b 4 cs → Blk w' b 4 cs) : BOwn w' A r := fun h0 => by
  obtain ⟨g, cs, h1, h2, h3⟩ := h h0
  exact ⟨g, cs, h1, hk _ _ h2, h3⟩
theorem BOwn.slAt (h : BOwn w A r) : SlAt RBool 1 w A r := by
  rcases Nat.eq_zero_or_pos r.length with h0 | h0
  · rw [List.eq_nil_of_length_eq_zero h0]; exact SlAt.nil
  · obtain ⟨g, cs, rfl, hB, hc⟩ := h h0
    refine ⟨g, 0, fun i x hx => ⟨rfl, hB.lt, ?_⟩⟩
    unfold RBool cellIs
    have := hB.cell i
    rw [hc i x hx] at this
    simpa using this
theorem flat_bool (l : List Bool) : l.flatMap boolEnc = l.map Value.bool := by
  induction l with
  | nil => rfl
  | cons x l ih => rw [List.flatMap_cons, ih]; rfl
theorem Own.bown (h : Own boolEnc 1 w base 4 v r) : ∃ A c, v = .slice A r.length c ∧ BOwn w A r := by
  obtain ⟨A, c, rfl⟩ := h.form
  refine ⟨A, c, rfl, fun h0 => ?_⟩
  rcases h.2 with ⟨_, h1⟩ | ⟨g, cap, cur, hv, hg, hh, hnc, hcm, hcs, htake⟩
  · omega
  · injection hv with h1 h2 h3
    subst h1
    refine ⟨g, cur, rfl, hh, fun k x hx => ?_⟩
    have hk := lt_of_get hx
    rw [flat_bool] at htake
    have h4 : (cur.toList.take (r.length * 1))[k]? = some (.bool x) := by rw [htake]; simp [hx]
    rw [List.getElem?_take_of_lt (by omega)] at h4
    simpa using h4
theorem RowsAt.keep (h : RowsAt w items rs) (hk : ∀ b cs, Blk w b 4 cs → Blk w' b 4 cs) : RowsAt w' items rs := ⟨h.1, fun i it r h1 h2 => (h.2 i it r h1 h2).keep hk⟩
theorem RowsAt.ext (h : RowsAt w items rs) (hb : Below w.heap.size w w') : RowsAt w' items rs := h.keep fun _ _ hB => hB.ext hb
theorem RowsAt.nil : RowsAt w [] [] := ⟨rfl, fun i it r h => by simp at h⟩
theorem RowsAt.snoc (h : RowsAt w items rs) {c : Nat} (hr : BOwn w A r) : RowsAt w (items ++ [(A, c)]) (rs ++ [r]) := by
  refine ⟨by simp [h.1], fun i it q h1 h2 => ?_⟩
  by_cases hi : i < items.length
  · rw [List.getElem?_append_left hi] at h1
    rw [List.getElem?_append_left (by rw [← h.1]; exact hi)] at h2
    exact h.2 i it q h1 h2
  · have hl := lt_of_get h1
    simp only [List.length_append, List.length_cons, List.length_nil] at hl
    rw [List.getElem?_append_right (by omega), show i - items.length = 0 by omega] at h1
    rw [List.getElem?_append_right (by rw [← h.1]; omega), show i - rs.length = 0 by rw [← h.1]; omega] at h2
    have e1 : (A, c) = it := by simpa using h1
    have e2 : r = q := by simpa using h2
    rw [← e1, ← e2]
    exact hr
end
theorem info_bool2 : ∃ i, Try.prog.info? 4 = some i ∧ i.zero = some (.bool false) ∧ i.size = 1 ∧ i.bytes = 1 := by
  obtain ⟨i0, hi, hz0, hz1, hz2⟩ := info_parts info_bool
  exact ⟨i0, hi, hz0, hz1, hz2⟩
theorem info_row : (Try.prog.info? 89).map (fun i => (i.zero, i.size, i.bytes)) = some (some (.slice none 0 0), 1, 24) := by kernel_rfl
theorem info_row2 : ∃ i, Try.prog.info? 89 = some i ∧ i.zero = some (.slice none 0 0) ∧ i.size = 1 ∧ i.bytes = 24 := by
  obtain ⟨i0, hi, hzz⟩ := Option.map_eq_some_iff.1 info_row
  simp only [Prod.mk.injEq] at hzz
  exact ⟨i0, hi, hzz.1, hzz.2.1, hzz.2.2⟩
theorem own_items {n : Nat} {w : World} {base : Nat} {v : Value} {items : List (Option Addr × Nat)} (h : Own (rowEnc n) 1 w base 89 v items) : ∃ A c, v = .slice A items.length c ∧ SlAt (RItem n) 1 w A items :=
  Own.slAt (R := RItem n) (enc := rowEnc n) (fun _ => rfl) (fun x _ b o hc => by have := hc 0 _ rfl; simpa [RItem] using this) h
theorem bool_one {x : Bool} : ∀ u ∈ (#[.bool x] : Array Value).toList, u.oneCell' = true := by simp [Value.oneCell']
theorem row_one {A : Option Addr} {n c : Nat} : ∀ u ∈ (#[.slice A n c] : Array Value).toList, u.oneCell' = true := by simp [Value.oneCell']
def ReachOut (g : GraphD) (s e : Int) (w : World) (en : Ending) (w' : World) : Prop := ∃ A c items rs, en = .returned (.tuple #[.slice A items.length c, .int .i64 (reachErr g s e)]) ∧
  SlAt (RItem g.lives.length) 1 w' A items ∧ RowsAt w' items rs ∧ Hid (reachErr g s e = 0 → RowsOk g s e g.lives.length rs) ∧ Hid (¬ reachErr g s e = 0 → items = []) ∧ items.length ≤ maxLen ∧ Below w.heap.size w w'
theorem reach_bad {g : GraphD} {s e : Int} {w w' : World} (h : ¬ reachErr g s e = 0) (hb : Below w.heap.size w w') : ReachOut g s e w (.returned (.tuple #[.slice none 0 0, .int .i64 (reachErr g s e)])) w' :=
  ⟨none, 0, [], [], rfl, SlAt.nil, RowsAt.nil, Lib.hid (fun h0 => absurd h0 h), Lib.hid (fun _ => rfl), by simp, hb⟩
theorem mark_take {e : Int} {l : List Int} {j : Nat} (h : j < l.length) : (markRow e l).take (j + 1) = (markRow e l).take j ++ [decide (gi l j ≤ e)] := by
  rw [List.take_add_one, markRow_get h]; rfl

set_option maxRecDepth 100000 in
set_option maxHeartbeats 4000000 in
theorem reach_any (A A' : Option Addr) (c c' : Nat) (g : GraphD) (s e : Int) (w : World) (hG : GraphAt w A c A' c' g) :
    Calls Try.prog 59 #[gV A c A' c' g, .int .i64 s, .int .i64 e] w (ReachOut g s e w) := by
  have m1 : g.lives.length ≤ 9223372036854775807 := Nat.le_trans hG.lc hG.cm
  by_cases h0 : graphErr g = 0
  case neg =>
    have HE : Hid (reachErr g s e = graphErr g) := Lib.hid (by unfold reachErr; rw [if_neg h0])
    have HB : Hid (¬ reachErr g s e = 0) := Lib.hid (by rw [HE.out]; exact h0)
    have hn : (graphErr g != 0) = true := by simp [h0]
    clear h0
    go_enter Try.func59, Try.ntmps59
    go_wp2_with fail
    refine (check_any _ _ _ _ g _ (hG.ext (by go_grown))).mono ?_
    rintro e w1 ⟨rfl, hb1⟩
    go_wp2_with fail
    go_ret2
    rw [← HE.out]
    exact reach_bad HB.out (ext_trans (by go_grown) hb1)
  have H0 := Lib.hid h0
  clear h0
  by_cases hr : (0 ≤ s ∧ s < g.h) ∧ 0 ≤ e ∧ e < g.h
  case neg =>
    have HE : Hid (reachErr g s e = 1) := Lib.hid (by unfold reachErr; rw [if_pos H0.out, if_neg hr])
    have HB : Hid (¬ reachErr g s e = 0) := Lib.hid (by rw [HE.out]; decide)
    by_cases a1 : s < 0
    · have hd1 : decide (s < 0) = true := by simpa using a1
      clear a1 hr
      go_enter Try.func59, Try.ntmps59
      go_wp2_with fail
      refine (check_any _ _ _ _ g _ (hG.ext (by go_grown))).mono ?_
      rw [H0.out]
      rintro e w1 ⟨rfl, hb1⟩
      obtain ⟨B0, c1, c2, c3⟩ := (Blk.new w 78 (gC A c A' c' g)).go hb1
      go_wp2_with fail
      go_ret2
      have := reach_bad (w := w) (w' := w1) HB.out (ext_trans (by go_grown) hb1)
      rw [HE.out] at this
      exact this
    have hd1 : decide (s < 0) = false := by simpa using a1
    by_cases a2 : s ≥ g.h
    · have hd2 : decide (s ≥ g.h) = true := by simpa using a2
      clear a1 a2 hr
      go_enter Try.func59, Try.ntmps59
      go_wp2_with fail
      refine (check_any _ _ _ _ g _ (hG.ext (by go_grown))).mono ?_
      rw [H0.out]
      rintro e w1 ⟨rfl, hb1⟩
      obtain ⟨B0, c1, c2, c3⟩ := (Blk.new w 78 (gC A c A' c' g)).go hb1
      go_wp2_with fail
      go_ret2
      have := reach_bad (w := w) (w' := w1) HB.out (ext_trans (by go_grown) hb1)
      rw [HE.out] at this
      exact this
    have hd2 : decide (s ≥ g.h) = false := by simpa using a2
    by_cases a3 : e < 0
    · have hd3 : decide (e < 0) = true := by simpa using a3
      clear a1 a2 a3 hr
      go_enter Try.func59, Try.ntmps59
      go_wp2_with fail
      refine (check_any _ _ _ _ g _ (hG.ext (by go_grown))).mono ?_
      rw [H0.out]
      rintro e w1 ⟨rfl, hb1⟩
      obtain ⟨B0, c1, c2, c3⟩ := (Blk.new w 78 (gC A c A' c' g)).go hb1
      go_wp2_with fail
      go_ret2
      have := reach_bad (w := w) (w' := w1) HB.out (ext_trans (by go_grown) hb1)
      rw [HE.out] at this
      exact this
    have hd3 : decide (e < 0) = false := by simpa using a3
    have hd4 : decide (e ≥ g.h) = true := by simp only [decide_eq_true_eq]; omega
    clear a1 a2 a3 hr
    go_enter Try.func59, Try.ntmps59
    go_wp2_with fail
    refine (check_any _ _ _ _ g _ (hG.ext (by go_grown))).mono ?_
    rw [H0.out]
    rintro e w1 ⟨rfl, hb1⟩
    obtain ⟨B0, c1, c2, c3⟩ := (Blk.new w 78 (gC A c A' c' g)).go hb1
    go_wp2_with fail
    go_ret2
    have := reach_bad (w := w) (w' := w1) HB.out (ext_trans (by go_grown) hb1)
    rw [HE.out] at this
    exact this
  have HE : Hid (reachErr g s e = 0) := Lib.hid (by unfold reachErr; rw [if_pos H0.out, if_pos hr])
  obtain ⟨⟨hs0, hs1⟩, he0, he1⟩ := hr
  have hV := valid_of H0.out
  have hh1 := hV.h1
  have hn12 := hV.nl
  have hd1 : decide (s < 0) = false := by simpa using hs0
  have hd2 : decide (s ≥ g.h) = false := by simpa using hs1
  have hd3 : decide (e < 0) = false := by simpa using he0
  have hd4 : decide (e ≥ g.h) = false := by simpa using he1
  obtain ⟨i0, hi, hz0, hz1, hz2⟩ := info_bool2
  obtain ⟨j0, hj, hy0, hy1, hy2⟩ := info_row2
  go_enter Try.func59, Try.ntmps59
  go_wp2_with fail
  refine (check_any _ _ _ _ g _ (hG.ext (by go_grown))).mono ?_
  rw [H0.out]
  rintro e' w1 ⟨rfl, hb1⟩
  obtain ⟨B0, c1, c2, c3⟩ := (Blk.new w 78 (gC A c A' c' g)).go hb1
  have hbw : Below w.heap.size w w1 := ext_trans (by go_grown) hb1
  have hzw : w.heap.size + 1 ≤ w1.heap.size := c3
  clear hb1
  go_wp2_with fail
  go_loopw [9, 42] (fun o x wr => ∃ (k : Nat) (items : List (Option Addr × Nat)) (rs : List (List Bool)), k ≤ g.lives.length ∧ x = .int .i64 k ∧ Hid (RowsOk g s e k rs) ∧ Own (rowEnc g.lives.length) 1 wr (w.heap.size + 1) 89 o items ∧ RowsAt wr items rs ∧
    Blk wr w.heap.size 78 (gC A c A' c' g) ∧ Below (w.heap.size + 1) w1 wr) (fun _ x _ => g.lives.length - (intOf x).toNat)
  case atStart => exact ⟨0, [], [], Nat.zero_le _, rfl, Lib.hid RowsOk.zero, Own.nil, RowsAt.nil, B0, Below.refl _ _⟩
  case round =>
    clear B0 c1 c2 c3
    obtain ⟨k, items, rs, hk, rfl, HR, hown, hrows, B0, hb⟩ := hrel
    have hbr : Below w.heap.size w wr := hbw.trans (hb.mono (by omega))
    have hzr : w.heap.size + 1 ≤ wr.heap.size := Nat.le_trans hzw hb.size
    by_cases hlt : k < g.lives.length
    case neg =>
      obtain rfl : k = g.lives.length := by omega
      have hil := hrows.1
      obtain ⟨Ao, co, rfl, hSo⟩ := own_items hown
      go_wp2_with fail
      go_ret2
      rw [← HE.out]
      exact ⟨Ao, co, items, rs, rfl, hSo, hrows, Lib.hid (fun _ => HR.out), Lib.hid (fun h => absurd HE.out h), by rw [hil, HR.out.1]; unfold maxLen; omega, hbr⟩
    have HIL := Lib.hid hrows.1
    have hil12 : items.length ≤ 12 := by rw [hrows.1, HR.out.1]; omega
    have HP : Hid (placeErr g k s = 0) := Lib.hid (place_ok hV (by omega) (by omega) hs0 hs1)
    obtain ⟨c1, c2, c3⟩ := B0.facts
    go_wp2_with fail
    refine (arrivals_any _ _ _ _ g k s _ (hG.ext hbr)).mono ?_
    rw [HP.out]
    rintro e' w2 ⟨l, A1, d1, hl, rfl, hA1, hm1, hb2⟩
    have HL := Lib.hid (arr_good HP.out hl)
    have hn := HL.out.1
    rw [hn]
    have HN := Lib.hid hn
    have hown2 := hown.ext hb2
    have hrows2 := hrows.ext hb2
    have B02 := B0.ext hb2
    have hb2' : Below (w.heap.size + 1) w1 w2 := hb.trans (hb2.mono hzr)
    have hbr2 := ext_trans hbr hb2
    have hzr2 : w.heap.size + 1 ≤ w2.heap.size := Nat.le_trans hzr hb2.size
    clear hl hn hown hrows B0 hb hb2 c1 c2 c3 hbr hzr
    go_wp2_with fail
    go_loopw [13, 54] (fun o x wr => ∃ (j : Nat), j ≤ g.lives.length ∧ x = .int .i64 j ∧ Own boolEnc 1 wr w2.heap.size 4 o ((markRow e l).take j) ∧ Below w2.heap.size w2 wr) (fun _ x _ => g.lives.length - (intOf x).toNat)
    case atStart => exact ⟨0, Nat.zero_le _, rfl, Own.nil, Below.refl _ _⟩
    case round =>
      obtain ⟨j, hjk, rfl, hown, hb⟩ := hrel
      have hz2 : w2.heap.size ≤ wr.heap.size := hb.size
      by_cases hlt2 : j < g.lives.length
      case pos =>
        obtain ⟨b1, o1, rfl, hz1', hc1⟩ := hA1.cells (by rw [HN.out]; omega)
        have kj := cell_keep hb (hc1 j (by rw [HN.out]; exact hlt2))
        have HT := Lib.hid (mark_take (e := e) (l := l) (j := j) (by rw [HN.out]; exact hlt2))
        obtain ⟨x, hx⟩ : ∃ x, gi l j = x := ⟨_, rfl⟩
        rw [hx] at kj HT
        have hlen : ((markRow e l).take j).length ≤ 12 := by rw [List.length_take]; omega
        clear hc1 hx
        go_wp2_with (at_builtin; refine wpList_append_el (enc := boolEnc) rfl (.tmp 58) (.tmp 62) 89 rfl w2.heap.size 4 i0 _ 1 1 Try.underlying89 hi hz0 hz1 (by assumption) rfl (by decide) _ _ (decide (x ≤ e)) rfl hown _ rfl _ rfl rfl rfl bool_one (by omega) (by decide) (by omega) ?_; intro v' w6 hown6 hb6)
        go_roundw
        case rel => exact ⟨j + 1, by omega, by go_num, by rw [HT.out]; exact hown6, hb.trans hb6⟩
        case measure => simp [intOf]; omega
      case neg =>
        have hall : (markRow e l).take j = markRow e l := List.take_of_length_le (by simp [markRow, HN.out]; omega)
        rw [hall] at hown
        obtain ⟨Ab, cb, rfl, hB⟩ := hown.bown
        have hrl : (markRow e l).length = g.lives.length := by simp [markRow, HN.out]
        rw [hrl]
        have hown3 := hown2.ext hb
        have hrows3 := hrows2.ext hb
        have B03 := B02.ext hb
        have hb3 : Below (w.heap.size + 1) w1 wr := hb2'.trans (hb.mono hzr2)
        have HNX := Lib.hid (HR.out.next HL.out)
        clear hall hrl hown2 hrows2 B02 hown
        go_wp2_with (at_builtin; refine wpList_append_els (enc := rowEnc g.lives.length) rfl (.tmp 65) (.tmp 67) 86 rfl (w.heap.size + 1) 89 j0 _ 1 24 Try.underlying86 hj hy0 hy1 (by assumption) rfl (by decide) _ items [(Ab, cb)] 1 rfl rfl hown3 _ rfl _ rfl rfl rfl row_one (by omega) (by decide) (by omega) ?_; intro v' w6 hown6 hb6 hkp)
        go_roundw
        case rel => exact ⟨k + 1, items ++ [(Ab, cb)], rs ++ [markRow e l], by omega, by go_num, HNX, hown6, (hrows3.snoc hB).keep (fun b cs hb => hkp _ _ _ hb (by decide)), hkp _ _ _ B03 (by decide), hb3.trans hb6⟩
        case measure => simp [intOf]; omega
end Go.Proofs.Ytcfachfldanddaa
/- The walk of the law ProfileReach. -/
namespace Go.Proofs.Ytcfachfldanddaa
open Go.RowKit

theorem min_max3 (a b : Int) : ∃ m M : Int, (if b < a then b else a) = m ∧ (if a < b then b else a) = M ∧ m ≤ M ∧ (m = a ∨ m = b) ∧ (M = a ∨ M = b) := by
  refine ⟨_, _, rfl, rfl, ?_, ?_, ?_⟩
  · split <;> split <;> omega
  · split <;> simp
  · split <;> simp
theorem equalBoolsSame_any (A B : Option Addr) (c d : Nat) (l : List Bool) (n m : Nat) (w : World) (hA : SlAt RBool 1 w A l) (hB : SlAt RBool 1 w B l) (hl : l.length ≤ maxLen) (hn : l.length = n) (hm : l.length = m) :
    Calls Try.prog 62 #[.slice A n c, .slice B m d] w fun e w' => e = .returned (.bool true) ∧ Below w.heap.size w w' := by
  subst hn; subst hm
  exact (equalBools_any A B c d l l w hA hB hl hl).mono fun e w' ⟨h1, h2⟩ => ⟨by rw [h1]; simp, h2⟩
theorem bools2_at {w : World} {g : Nat} {a b : Bool} (h : Blk w g 4 #[.bool a, .bool b]) : SlAt RBool 1 w (some ⟨g, 0, none⟩) [a, b] :=
  BOwn.slAt (r := [a, b]) fun _ => ⟨g, _, rfl, h, fun k x hk => by
    match k, hk with
    | 0, hk => simpa using hk
    | 1, hk => simpa using hk
    | k + 2, hk => simp at hk⟩
theorem items_cells {w : World} {n : Nat} {A : Option Addr} {items : List (Option Addr × Nat)} (h : SlAt (RItem n) 1 w A items) (h0 : 0 < items.length) : ∃ b off, A = some ⟨b, off, none⟩ ∧ b < w.heap.size ∧ ∀ (i : Nat) it, items[i]? = some it → w.cell? ⟨b, off + i, none⟩ = some (.slice it.1 n it.2) := by
  obtain ⟨b, off, h⟩ := h
  obtain ⟨y, hy⟩ := get_lt h0
  obtain ⟨rfl, hb, _⟩ := h 0 y hy
  refine ⟨b, off, rfl, hb, fun i it hi => ?_⟩
  obtain ⟨_, _, h2⟩ := h i it hi
  simpa [RItem, cellIs] using h2
theorem bown_cells {w : World} {A : Option Addr} {r : List Bool} (h : BOwn w A r) (h0 : 0 < r.length) : ∃ g, A = some ⟨g, 0, none⟩ ∧ g < w.heap.size ∧ ∀ (k : Nat) (x : Bool), r[k]? = some x → w.cell? ⟨g, k, none⟩ = some (.bool x) := by
  obtain ⟨g, cs, h1, h2, h3⟩ := h h0
  exact ⟨g, h1, h2.lt, fun k x hk => by rw [h2.cell, h3 k x hk]⟩
theorem pair_reachErr : reachErr pairG 0 4 = 0 := by decide
theorem pair_rows {rs : List (List Bool)} (h : RowsOk pairG 0 4 2 rs) : rs[0]? = some [true, true] ∧ rs[1]? = some [false, false] := by
  obtain ⟨r0, h0⟩ := get_lt (l := rs) (k := 0) (by rw [h.1]; decide)
  obtain ⟨r1, h1⟩ := get_lt (l := rs) (k := 1) (by rw [h.1]; decide)
  obtain ⟨l0, hl0, e0⟩ := h.2 0 r0 h0
  obtain ⟨l1, hl1, e1⟩ := h.2 1 r1 h1
  have hd0 := hl1.dead pair_valid (by decide) (by decide) (k := 0) (by decide)
  have hd1 := hl1.dead pair_valid (by decide) (by decide) (k := 1) (by decide)
  have hq : l1 = [Never, Never] := gi_eq_of (by rw [hl1.1]; rfl) fun i hi => by
    rw [hl1.1] at hi
    have hi2 : i < 2 := hi
    match i, hi2 with
    | 0, _ => rw [hd0]; rfl
    | 1, _ => rw [hd1]; rfl
  have hp : l0 = [0, 4] := pair_early hl0
  rw [h0, h1, e0, e1, hq, hp]
  decide

end Go.Proofs.Ytcfachfldanddaa
