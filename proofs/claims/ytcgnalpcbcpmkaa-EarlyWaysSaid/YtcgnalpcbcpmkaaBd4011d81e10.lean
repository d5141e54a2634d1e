/- Several texts in one: RefArr, RefLeast, RefFast, LawCheapSays. -/
import Derived.Test.YtcgnalpcbcpmkaaBddc3fd758ab
import Derived.Test.YtcgnalpcbcpmkaaBd87da4791cb
import Derived.Test.YtcgnalpcbcpmkaaBd405a516cd9
import Derived.Test.YtcgnalpcbcpmkaaBd48977b6e48
import Derived.Test.YtcgnalpcbcpmkaaBded4119261a
import Derived.Test.YtcgnalpcbcpmkaaBd0f08d7f12b
import Derived.Test.YtcgnalpcbcpmkaaBd48cc3a8d25
import Derived.Test.YtcgnalpcbcpmkaaBd7c784e060f
/- The walk of the document's Arrivals: when something is told of a vertex first. -/
namespace Go.Proofs.Ytcgnalpcbcpmkaa
open Go.RowKit

/-- A list of numbers is told. -/
def IntsR (Q : List Int → Prop) (w : World) (e : Ending) (w' : World) : Prop := ∃ l A c, Hid (Q l) ∧ e = .returned (.slice A l.length c) ∧ SlAt RInt 1 w' A l ∧ l.length ≤ maxLen ∧ Below w.heap.size w w'
theorem soonL_get {g : GraphD} {d : Nat × Nat → Int} {k : Nat} (h : k < g.lives.length) : (soonL g d)[k]? = some (soon (fun s => d (k, s)) 0 g.h.toNat) := by simp [soonL, h]
theorem soonL_len (g : GraphD) (d : Nat × Nat → Int) : (soonL g d).length = g.lives.length := by simp [soonL]
theorem soonL_i64 {g : GraphD} {d : Nat × Nat → Int} (hh : g.h ≤ 100) : ∀ x, x ∈ soonL g d → I64 x := fun x hx => by
  simp only [soonL, List.mem_map, List.mem_range] at hx
  obtain ⟨u, _, rfl⟩ := hx
  rcases (soon_spec (f := fun s => d (u, s)) g.h.toNat 0).1 with h | ⟨s, h, _, h2, _⟩
  · rw [h]; unfold I64 Never; omega
  · rw [h]; unfold I64; omega

set_option maxRecDepth 100000 in
set_option maxHeartbeats 8000000 in
theorem refArrivals_any (A A' : Option Addr) (c c' : Nat) (g : GraphD) (v s : Int) (w : World) (hG : GraphAt w A c A' c' g) (h0 : placeErr g v s = 0) :
    Calls Try.prog 77 #[gV A c A' c' g, .int .i64 v, .int .i64 s] w (IntsR (EarlyL g v s) w) := by
  obtain ⟨hV, ⟨hv0, hv1⟩, hs0, hs1⟩ := place_of h0
  have hh1 := hV.h1
  have hhp := hV.h0
  have hn12 := hV.nl
  have m1 : g.lives.length ≤ 9223372036854775807 := by omega
  have H0 := Lib.hid h0
  clear h0
  obtain ⟨i0, hi, hz0, hz1, hz2⟩ := info_parts info_int
  go_enter Try.func77, Try.ntmps77
  go_wp2_with fail
  refine (refSums_any _ _ _ _ g v s _ (hG.ext (by go_grown)) H0.out).mono ?_
  rintro e w1 ⟨C, H, ic, ih, bc, bh, cc, ch, HC, rfl, hOC, _, HL, hTC, _, hcc, hcm, _, _, hb1⟩
  obtain ⟨B0, c1, c2, c3⟩ := (Blk.new w 28 (gC A c A' c' g)).go hb1
  have hbw : Below w.heap.size w w1 := ext_trans (by go_grown) hb1
  clear hb1
  go_wp2_with fail
  go_loopw [9, 10] (fun o x wr => ∃ (k : Nat) (lo : List Int), k ≤ g.lives.length ∧ x = .int .i64 k ∧ Hid (lo = (soonL g C).take k) ∧ lo.length ≤ 12 ∧ Own intEnc 1 wr w1.heap.size 3 o lo ∧ Below w1.heap.size w1 wr) (fun _ x _ => g.lives.length - (intOf x).toNat)
  case atStart => exact ⟨0, [], Nat.zero_le _, rfl, Lib.hid (by simp), by simp, Own.nil, Below.refl _ _⟩
  case round =>
    clear c1 c2 c3
    obtain ⟨k, lo, hk, rfl, HLO, hlo, hown, hb⟩ := hrel
    have hbwr := ext_trans hbw hb
    obtain ⟨f1, f2, f3⟩ := (B0.ext hb).facts
    have hzs := hb.size
    by_cases hlt : k < g.lives.length
    case neg =>
      have HE : Hid (lo = soonL g C) := Lib.hid (by rw [HLO.out, List.take_of_length_le]; rw [soonL_len]; omega)
      obtain ⟨Ar, cr, rfl, hSr⟩ := own_ints hown (by rw [HE.out]; exact soonL_i64 hh1)
      go_wp2_with fail
      go_ret
      exact ⟨lo, Ar, cr, Lib.hid (by rw [HE.out]; exact soonL_early hV (light_cost hV) HC.out.1 ⟨hv0, hv1⟩ ⟨hs0, hs1⟩), rfl, hSr, by unfold maxLen; omega, hbwr⟩
    case pos =>
      obtain ⟨p, hp⟩ := get_lt (l := ic) (k := k) (by have := HL.out.1; omega)
      have k1 := (hOC.keep fun _ h => h.ext hb).cell hp
      have HT := Lib.hid (hTC.keep fun _ _ h => h.ext hb)
      have HP := Lib.hid hp
      have HN : Hid (lo ++ [soon (fun s => C (k, s)) 0 g.h.toNat] = (soonL g C).take (k + 1)) := Lib.hid (by rw [HLO.out, List.take_add_one, soonL_get hlt]; rfl)
      have hlk : lo.length ≤ k := by rw [HLO.out, List.length_take]; omega
      obtain ⟨Ao2, co2, rfl⟩ := hown.form
      clear hp HLO
      obtain ⟨wo, hwo⟩ : ∃ wo : World, wo = wr := ⟨_, rfl⟩
      rw [← hwo] at hown hb hbwr f1 f2 f3 hzs k1 HT ⊢
      clear hwo
      go_wp2_with fail
      go_loopw [11, 12] (fun n x wr => ∃ (j : Nat) (nn xi : Int), (j : Int) ≤ g.h ∧ xi = (j : Int) - 1 ∧ x = .int .i64 xi ∧ n = .int .i64 nn ∧ Hid (nn = soon (fun s => C (k, s)) j (g.h.toNat - j)) ∧ wr = wo) (fun _ x _ => (intOf x + 1).toNat)
      case atStart => exact ⟨g.h.toNat, Never, g.h - 1, by omega, by omega, rfl, rfl, Lib.hid (by rw [Nat.sub_self]; rfl), rfl⟩
      case round =>
        obtain ⟨j, nn, xi, hj, hxi, rfl, rfl, HJ, rfl⟩ := hrel
        cases j with
        | zero =>
          obtain rfl : xi = -1 := by omega
          have HJ2 : Hid (nn = soon (fun s => C (k, s)) 0 g.h.toNat) := Lib.hid (by rw [HJ.out]; rfl)
          clear hxi HT HP HJ
          go_wp2_with (at_builtin; refine wpList_append_els (enc := intEnc) rfl (.tmp 43) (.tmp 45) 53 rfl w1.heap.size 3 i0 _ 1 8 Try.underlying53 hi hz0 hz1 hz2 rfl (by decide) _ lo [nn] 1 rfl rfl hown _ rfl wr.heap.size (by simp) rfl rfl int_one1 (by omega) (by decide) hzs ?_; intro v' w8 hown8 hb8 hkp8)
          go_roundw
          case rel => exact ⟨k + 1, lo ++ [nn], by omega, by go_num, Lib.hid (by rw [HJ2.out]; exact HN.out), by simp; omega, hown8, hb.trans hb8⟩
          case measure => simp [intOf]; omega
        | succ j =>
          obtain rfl : xi = (j : Int) := by omega
          have k2 := HT.out.cell HP.out (t := j) (by omega)
          have hsub : g.h.toNat - j = (g.h.toNat - (j + 1)) + 1 := by omega
          obtain ⟨z, hz⟩ : ∃ z, C (k, j) = z := ⟨_, rfl⟩
          have HZ := Lib.hid hz
          have HS := Lib.hid hsub
          rw [hz] at k2
          clear hz hsub hxi
          by_cases hzn : z < Never
          case pos =>
            have hd : decide (z < 1099511627776) = true := by simp only [Never] at hzn; simp; omega
            have HJ2 : Hid ((j : Int) = soon (fun s => C (k, s)) j (g.h.toNat - j)) := Lib.hid (by rw [HS.out, soon_yes (by simp only [HZ.out]; exact hzn)])
            clear hzn
            go_wp2_with fail
            go_roundw
            case rel => exact ⟨j, j, (j : Int) - 1, by omega, rfl, by go_num, rfl, HJ2, by trivial⟩
            case measure => first | (simp [intOf]; done) | (simp [intOf]; omega)
          case neg =>
            have hd : decide (z < 1099511627776) = false := by simp only [Never] at hzn; simp; omega
            have HJ2 : Hid (nn = soon (fun s => C (k, s)) j (g.h.toNat - j)) := Lib.hid (by rw [HS.out, soon_no (by simp only [HZ.out]; exact hzn)]; exact HJ.out)
            clear hzn
            go_wp2_with fail
            go_roundw
            case rel => exact ⟨j, nn, (j : Int) - 1, by omega, rfl, by go_num, rfl, HJ2, by trivial⟩
            case measure => first | (simp [intOf]; done) | (simp [intOf]; omega)
end Go.Proofs.Ytcgnalpcbcpmkaa
/- The walk of the document's Least: of each row the least number. -/
namespace Go.Proofs.Ytcgnalpcbcpmkaa
open Go.RowKit

def leastsL (n m : Nat) (d : Nat × Nat → Int) : List Int := (List.range n).map fun u => (leastN d u m).1
theorem leastsL_is (g : GraphD) (d : Nat × Nat → Int) : leastsL g.lives.length g.h.toNat d = leastL g d := rfl
theorem leastsL_get {n m : Nat} {d : Nat × Nat → Int} {k : Nat} (h : k < n) : (leastsL n m d)[k]? = some (leastN d k m).1 := by simp [leastsL, h]
theorem leastsL_len (n m : Nat) (d : Nat × Nat → Int) : (leastsL n m d).length = n := by simp [leastsL]
theorem leastN_low {d : Nat × Nat → Int} {u : Nat} (h : ∀ p, 0 ≤ d p) (m : Nat) : 0 ≤ (leastN d u m).1 := by
  rcases Int.lt_or_le (leastN d u m).1 Never with h1 | h1
  · obtain ⟨r, _, _, h3⟩ := leastN_at h1
    rw [← h3]; exact h _
  · simp only [Never] at h1; omega
theorem leastN_min (d : Nat × Nat → Int) (u k : Nat) : (leastN d u (k + 1)).1 = min (leastN d u k).1 (d (u, k)) := by
  rw [leastN]
  split <;> first | omega | (simp only; omega)

set_option maxRecDepth 100000 in
set_option maxHeartbeats 8000000 in
theorem refLeast_any (b n c m : Nat) (its : List RowI) (d : Nat × Nat → Int) (w : World) (hO : OutAt w b m its) (hn : its.length = n) (hT : TabR w m its d) (hn12 : n ≤ 12) (hm : m ≤ 100) (hd : Hid (∀ p, 0 ≤ d p)) :
    Calls Try.prog 68 #[.slice (some ⟨b, 0, none⟩) n c] w (IntsR (fun l => l = leastsL n m d) w) := by
  have HL := Lib.hid hn
  clear hn
  obtain ⟨i0, hi, hz0, hz1, hz2⟩ := info_parts info_int
  go_enter Try.func68, Try.ntmps68
  go_wp2_with fail
  go_loopw [3, 4] (fun o x wr => ∃ (k : Nat) (lo : List Int), k ≤ n ∧ x = .int .i64 k ∧ Hid (lo = (leastsL n m d).take k) ∧ lo.length ≤ 12 ∧ Own intEnc 1 wr w.heap.size 3 o lo ∧ Below w.heap.size w wr) (fun _ x _ => n - (intOf x).toNat)
  case atStart => exact ⟨0, [], Nat.zero_le _, rfl, Lib.hid (by simp), by simp, Own.nil, Below.refl _ _⟩
  case round =>
    obtain ⟨k, lo, hk, rfl, HLO, hlo, hown, hb⟩ := hrel
    have hzs := hb.size
    by_cases hlt : k < n
    case neg =>
      have HE : Hid (lo = leastsL n m d) := Lib.hid (by rw [HLO.out, List.take_of_length_le]; rw [leastsL_len]; omega)
      obtain ⟨Ar, cr, rfl, hSr⟩ := own_ints hown (fun x hx => by
        rw [HE.out] at hx
        simp only [leastsL, List.mem_map, List.mem_range] at hx
        obtain ⟨u, _, rfl⟩ := hx
        have h1 := leastN_le d u m
        have h2 := leastN_low (u := u) hd.out m
        unfold I64
        simp only [Never] at h1
        omega)
      go_wp2_with fail
      go_ret
      exact ⟨lo, Ar, cr, HE, rfl, hSr, by unfold maxLen; omega, hb⟩
    case pos =>
      obtain ⟨p, hp⟩ := get_lt (l := its) (k := k) (by have := HL.out; omega)
      have k1 := (hO.keep fun _ h => h.ext hb).cell hp
      have HT := Lib.hid (hT.keep fun _ _ h => h.ext hb)
      have HP := Lib.hid hp
      have HN : Hid (lo ++ [(leastN d k m).1] = (leastsL n m d).take (k + 1)) := Lib.hid (by rw [HLO.out, List.take_add_one, leastsL_get hlt]; rfl)
      have hlk : lo.length ≤ k := by rw [HLO.out, List.length_take]; omega
      obtain ⟨Ao2, co2, rfl⟩ := hown.form
      clear hp HLO
      obtain ⟨wo, hwo⟩ : ∃ wo : World, wo = wr := ⟨_, rfl⟩
      rw [← hwo] at hown hb hzs k1 HT ⊢
      clear hwo
      go_wp2_with fail
      go_loopw [5, 6] (fun nv x wr => ∃ (j : Nat) (nn : Int), j ≤ m ∧ x = .int .i64 j ∧ nv = .int .i64 nn ∧ Hid (nn = (leastN d k j).1) ∧ wr = wo) (fun _ x _ => m - (intOf x).toNat)
      case atStart => exact ⟨0, Never, Nat.zero_le _, rfl, rfl, Lib.hid rfl, rfl⟩
      case round =>
        obtain ⟨j, nn, hj, rfl, rfl, HJ, rfl⟩ := hrel
        by_cases hlj : j < m
        case neg =>
          have HJ2 : Hid (nn = (leastN d k m).1) := Lib.hid (by rw [HJ.out, show j = m by omega])
          clear HT HP HJ
          go_wp2_with (at_builtin; refine wpList_append_els (enc := intEnc) rfl (.tmp 31) (.tmp 33) 53 rfl w.heap.size 3 i0 _ 1 8 Try.underlying53 hi hz0 hz1 hz2 rfl (by decide) _ lo [nn] 1 rfl rfl hown _ rfl wr.heap.size (by simp) rfl rfl int_one1 (by omega) (by decide) hzs ?_; intro v' w8 hown8 hb8 hkp8)
          go_roundw
          case rel => exact ⟨k + 1, lo ++ [nn], by omega, by go_num, Lib.hid (by rw [HJ2.out]; exact HN.out), by simp; omega, hown8, hb.trans hb8⟩
          case measure => simp [intOf]; omega
        case pos =>
          have k2 := HT.out.cell HP.out (t := j) hlj
          obtain ⟨z, hz⟩ : ∃ z, d (k, j) = z := ⟨_, rfl⟩
          have HJ2 : Hid (min nn z = (leastN d k (j + 1)).1) := Lib.hid (by rw [leastN_min, ← HJ.out, hz])
          rw [hz] at k2
          clear hz
          go_wp2_with fail
          go_roundw
          case rel => exact ⟨j + 1, min nn z, by omega, by go_num, by first | rfl | go_num, HJ2, by trivial⟩
          case measure => simp [intOf]; omega
end Go.Proofs.Ytcgnalpcbcpmkaa
/- The walk of the document's Fastest. -/
namespace Go.Proofs.Ytcgnalpcbcpmkaa
open Go.RowKit

def RFastOut (g : GraphD) (v u : Int) (w : World) (e : Ending) (w' : World) : Prop := ∃ d a er, Hid (FastOk g v u d a er) ∧ e = .returned (.tuple #[.int .i64 d, .int .i64 a, .int .i64 er]) ∧ Below w.heap.size w w'
set_option maxRecDepth 100000 in
set_option maxHeartbeats 8000000 in
theorem refFastest_any (A A' : Option Addr) (c c' : Nat) (g : GraphD) (v u : Int) (w : World) (hG : GraphAt w A c A' c' g) (h0 : graphErr g = 0) (hv : 0 ≤ v ∧ v < g.lives.length) (hu : 0 ≤ u ∧ u < g.lives.length) :
    Calls Try.prog 86 #[gV A c A' c' g, .int .i64 v, .int .i64 u] w (RFastOut g v u w) := by
  have H0 := Lib.hid h0
  have hV := valid_of h0
  obtain ⟨hv0, hv1⟩ := hv
  obtain ⟨hu0, hu1⟩ := hu
  have hh0 := hV.h0
  have hh1 := hV.h1
  have hn12 := hV.nl
  have m1 : g.lives.length ≤ 9223372036854775807 := by omega
  clear h0
  go_enter Try.func86, Try.ntmps86
  go_wp2_with fail
  have B0 : Blk (w.alloc (Obj.cells (gC A c A' c' g) 28)) w.heap.size 28 (gC A c A' c' g) := Blk.new _ _ _
  have hbw : Below w.heap.size w (w.alloc (Obj.cells (gC A c A' c' g) 28)) := by go_grown
  go_loopw [9, 10, 11] (fun xb xa x wr => ∃ (k : Nat) (b a : Int), k ≤ 100 ∧ (k : Int) ≤ g.h ∧ xb = .int .i64 b ∧ xa = .int .i64 a ∧ x = .int .i64 k ∧ Hid (FTried g v u k b a) ∧ Blk wr w.heap.size 28 (gC A c A' c' g) ∧ Below w.heap.size w wr)
    (fun _ _ x _ => (100 - intOf x).toNat)
  case atStart => exact ⟨0, 1099511627776, 0, by omega, by omega, rfl, rfl, rfl, Lib.hid FTried.start, B0, hbw⟩
  case round =>
    clear B0 hbw
    obtain ⟨k, b, a, hk, hkh, rfl, rfl, rfl, HF, B0, hbw⟩ := hrel
    obtain ⟨c1, c2, c3⟩ := B0.facts
    by_cases hlt : (k : Int) < g.h
    case neg =>
      have hkk : (k : Int) = g.h := by omega
      rcases HF.out with ⟨hb, ha, hno⟩ | hb
      · rw [hkk] at hno
        have HN := Lib.hid (FastOk.none H0.out ⟨hv0, hv1⟩ ⟨hu0, hu1⟩ hno)
        subst ha
        have hbe : (b == 1099511627776) = true := by rw [hb]; rfl
        clear hb hno hkk
        go_wp2_with fail
        refine bodyPost_ret (results3 rfl _ _ _) rfl ?_
        exact ⟨0, 0, 4, HN, rfl, hbw⟩
      · rw [hkk] at hb
        have HN := Lib.hid (FastOk.some H0.out ⟨hv0, hv1⟩ ⟨hu0, hu1⟩ hb)
        have hbe : (b == 1099511627776) = false := by have := hb.b1; simp; omega
        clear hb hkk
        go_wp2_with fail
        refine bodyPost_ret (results3 rfl _ _ _) rfl ?_
        exact ⟨b, a, 0, HN, rfl, hbw⟩
    have HP : Hid (placeErr g v k = 0) := Lib.hid (place_ok hV hv0 hv1 (by omega) hlt)
    have hbr : 0 ≤ b ∧ b ≤ 1099511627776 := by
      rcases HF.out with ⟨hb, _, _⟩ | hb
      · simp only [Never] at hb; omega
      · have := hb.b0; have := hb.b1; omega
    obtain ⟨hbr0, hbr1⟩ := hbr
    go_wp2_with fail
    refine (refArrivals_any _ _ _ _ g v k _ (hG.ext hbw) HP.out).mono ?_
    rintro e w2 ⟨l, A1, d1, HE, rfl, hA1, hm1, hb2⟩
    have hn := HE.out.1
    rw [hn]
    have HN := Lib.hid hn
    have B0 := B0.ext hb2
    have hbw := ext_trans hbw hb2
    clear hn hb2 c1 c2 c3
    obtain ⟨b1, o1, rfl, hz1, hc1⟩ := hA1.cells (by rw [HN.out]; omega)
    have ku := hc1 u.toNat (by rw [HN.out]; omega)
    clear hc1
    obtain ⟨x, hx⟩ : ∃ x, gi l u.toNat = x := ⟨_, rfl⟩
    have hx0 : (k : Int) ≤ x := by rw [← hx]; exact HE.out.low hV (by omega) (by omega)
    have hx1 : x ≤ 1099511627776 := by rw [← hx]; exact HE.out.big (by omega) _
    rw [hx] at ku
    have HX := Lib.hid hx
    clear hx
    have hwrap : IntKind.i64.wrap (x - k) = x - k := IntWalk.i64_in _ (by omega)
    by_cases hxn : x < 1099511627776
    case neg =>
      have hxd : decide (x < 1099511627776) = false := by simpa using hxn
      have HS := Lib.hid (HF.out.skip ⟨by omega, by omega⟩ HE.out (by rw [HX.out]; simp only [Never]; omega))
      clear hxn
      go_wp2_with fail
      go_roundw
      case rel => exact ⟨k + 1, b, a, by omega, by omega, rfl, rfl, by go_num, HS, B0, hbw⟩
      case measure => simp [intOf]; omega
    have hxd : decide (x < 1099511627776) = true := by simpa using hxn
    by_cases hlb : x - k < b
    case pos =>
      have hlbd : decide (x - k < b) = true := by simpa using hlb
      have HS := Lib.hid (HF.out.take hV ⟨by omega, hlt⟩ ⟨hv0, hv1⟩ ⟨hu0, hu1⟩ HE.out HX.out hxn hlb)
      go_wp2_with fail
      go_roundw
      case rel => exact ⟨k + 1, x - k, k, by omega, by omega, rfl, rfl, by go_num, HS, B0, hbw⟩
      case measure => simp [intOf]; omega
    case neg =>
      have hlbd : decide (x - k < b) = false := by simpa using hlb
      have HS := Lib.hid (HF.out.stay ⟨by omega, by omega⟩ HE.out HX.out hxn hlb)
      go_wp2_with fail
      go_roundw
      case rel => exact ⟨k + 1, b, a, by omega, by omega, rfl, rfl, by go_num, HS, B0, hbw⟩
      case measure => simp [intOf]; omega
end Go.Proofs.Ytcgnalpcbcpmkaa
/- The walk of the law CheapSays. -/
namespace Go.Proofs.Ytcgnalpcbcpmkaa
open Go.RowKit

set_option maxRecDepth 100000 in
set_option maxHeartbeats 16000000 in
theorem cheapSays_calls (A A' : Option Addr) (c c' : Nat) (g : GraphD) {w : World} (hG : GraphAt w A c A' c' g) (v : Int) (_hv : I64 v) (t : Int) (_ht : I64 t) (u : Int) (_hu : I64 u) :
    Calls Try.prog 27 #[gV A c A' c' g, .int .i64 v, .int .i64 t, .int .i64 u] w fun e w' => e = .returned (.bool true) ∧ Below w.heap.size w w' := by
  have m1 : g.lives.length ≤ 9223372036854775807 := Nat.le_trans hG.lc hG.cm
  go_enter Try.func27, Try.ntmps27
  go_wp2_with fail
  refine (place_any _ _ _ _ g v t _ (hG.ext (by go_grown))).mono ?_
  by_cases h0 : placeErr g v t = 0
  case neg =>
    have hn : (placeErr g v t == 0) = false := by simpa using h0
    have H0 := Lib.hid h0
    clear h0
    rintro e w1 ⟨rfl, hb1⟩
    obtain ⟨B0, c1, c2, c3⟩ := (Blk.new w 28 (gC A c A' c' g)).go hb1
    have hbw : Below w.heap.size w w1 := ext_trans (by go_grown) hb1
    clear hb1
    go_wp2_with fail
    refine (costs_any _ _ _ _ g v t _ (hG.ext hbw)).mono ?_
    rintro e w2 ⟨l1, A1, d1, hl1, rfl, _, _, hb2⟩
    obtain rfl := costs_bad H0.out hl1
    obtain ⟨B0, c1, c2, c3⟩ := B0.go hb2
    have hbw := ext_trans hbw hb2
    clear hb2 hl1
    go_wp2_with fail
    refine (hopsum_any _ _ _ _ g v t _ (hG.ext hbw)).mono ?_
    rintro e w3 ⟨l2, A2, d2, hl2, rfl, _, _, hb2⟩
    obtain rfl := costs_bad H0.out hl2
    obtain ⟨B0, c1, c2, c3⟩ := B0.go hb2
    have hbw := ext_trans hbw hb2
    clear hb2 hl2
    go_wp2_with fail
    refine (equalNil_any _ _ _ _ _).mono ?_
    rintro e w4 ⟨rfl, hb2⟩
    obtain ⟨B0, c1, c2, c3⟩ := B0.go hb2
    have hbw := ext_trans hbw hb2
    clear hb2
    go_wp2_with fail
    refine (equalNil_any _ _ _ _ _).mono ?_
    rintro e w5 ⟨rfl, hb2⟩
    obtain ⟨B0, c1, c2, c3⟩ := B0.go hb2
    have hbw := ext_trans hbw hb2
    clear hb2
    go_wp2_with fail
    refine (refGraph_any _ _ _ _ g _ (hG.ext hbw)).mono ?_
    by_cases hg : graphErr g = 0
    case neg =>
      have hgn : (graphErr g == 0) = false := by simpa using hg
      have HK := Lib.hid (FastOk.bad (v := v) (u := u) hg)
      clear hg
      rintro e w9 ⟨rfl, hb2⟩
      obtain ⟨B0, c1, c2, c3⟩ := B0.go hb2
      have hbw := ext_trans hbw hb2
      clear hb2
      go_wp2_with fail
      refine (fastest_any _ _ _ _ g v u _ (hG.ext hbw)).mono ?_
      rintro e w12 ⟨d, a, er, HF, rfl, hb2⟩
      have hbw := ext_trans hbw hb2
      obtain ⟨rfl, rfl, rfl⟩ := HF.out.eq HK.out
      clear hb2
      go_wp2_with fail
      go_ret
      exact ⟨by simp, hbw⟩
    case pos =>
      have HG := Lib.hid hg
      rw [hg]
      clear hg
      rintro e w9 ⟨rfl, hb2⟩
      obtain ⟨B0, c1, c2, c3⟩ := B0.go hb2
      have hbw := ext_trans hbw hb2
      clear hb2
      cases hv : inB v 0 ((g.lives.length : Int) - 1)
      case false =>
        have HK := Lib.hid (FastOk.out (v := v) (u := u) HG.out (fun h => by have := inB_iff.2 (show 0 ≤ v ∧ v ≤ (g.lives.length : Int) - 1 by omega); rw [hv] at this; simp at this))
        go_wp2_with (go_at_call 46; refine (in_any _ _ _ _).mono ?_; rintro e w' ⟨rfl, rfl⟩)
        refine (fastest_any _ _ _ _ g v u _ (hG.ext hbw)).mono ?_
        rintro e w12 ⟨d, a, er, HF, rfl, hb2⟩
        have hbw := ext_trans hbw hb2
        obtain ⟨rfl, rfl, rfl⟩ := HF.out.eq HK.out
        clear hb2
        go_wp2_with fail
        go_ret
        exact ⟨by simp, hbw⟩
      case true =>
        have hvi := inB_iff.1 hv
        cases hu : inB u 0 ((g.lives.length : Int) - 1)
        case false =>
          have HK := Lib.hid (FastOk.out (v := v) (u := u) HG.out (fun h => by have := inB_iff.2 (show 0 ≤ u ∧ u ≤ (g.lives.length : Int) - 1 by omega); rw [hu] at this; simp at this))
          go_wp2_with (go_at_call 46; refine (in_any _ _ _ _).mono ?_; rintro e w' ⟨rfl, rfl⟩)
          refine (fastest_any _ _ _ _ g v u _ (hG.ext hbw)).mono ?_
          rintro e w12 ⟨d, a, er, HF, rfl, hb2⟩
          have hbw := ext_trans hbw hb2
          obtain ⟨rfl, rfl, rfl⟩ := HF.out.eq HK.out
          clear hb2
          go_wp2_with fail
          go_ret
          exact ⟨by simp, hbw⟩
        case true =>
          have hui := inB_iff.1 hu
          go_wp2_with (go_at_call 46; refine (in_any _ _ _ _).mono ?_; rintro e w' ⟨rfl, rfl⟩)
          refine (refFastest_any _ _ _ _ g v u _ (hG.ext hbw) HG.out (by omega) (by omega)).mono ?_
          rintro e w10 ⟨d', a', er', HK, rfl, hb2⟩
          obtain ⟨B0, c1, c2, c3⟩ := B0.go hb2
          have hbw := ext_trans hbw hb2
          clear hb2
          go_wp2_with fail
          refine (fastest_any _ _ _ _ g v u _ (hG.ext hbw)).mono ?_
          rintro e w12 ⟨d, a, er, HF, rfl, hb2⟩
          have hbw := ext_trans hbw hb2
          obtain ⟨rfl, rfl, rfl⟩ := HF.out.eq HK.out
          clear hb2
          go_wp2_with fail
          go_ret
          exact ⟨by simp, hbw⟩
  case pos =>
    obtain ⟨hV, hvv, htt⟩ := place_of h0
    have hh1 := hV.h1
    have hn12 := hV.nl
    have H0 := Lib.hid h0
    clear h0
    rw [H0.out]
    rintro e w1 ⟨rfl, hb1⟩
    obtain ⟨B0, c1, c2, c3⟩ := (Blk.new w 28 (gC A c A' c' g)).go hb1
    have hbw : Below w.heap.size w w1 := ext_trans (by go_grown) hb1
    clear hb1
    go_wp2_with fail
    refine (refSums_any _ _ _ _ g v t _ (hG.ext hbw) H0.out).mono ?_
    rintro e w2 ⟨C, H, ic, ih, bc, bh, cc, ch, HC, rfl, hOC, hOH, HL, hTC, hTH, hcc, hcm, hhc, hhm, hb2⟩
    obtain ⟨B0, c1, c2, c3⟩ := B0.go hb2
    have hbw := ext_trans hbw hb2
    clear hb2
    go_wp2_with fail
    refine (refLeast_any bc g.lives.length cc g.h.toNat ic C _ hOC HL.out.1 hTC hn12 (by omega) (Lib.hid fun p => HC.out.1.pos (light_cost hV) p)).mono ?_
    rintro e w3 ⟨l1, A1, d1, HE1, rfl, hA1, hm1, hb2⟩
    obtain ⟨B0, c1, c2, c3⟩ := B0.go hb2
    have hbw := ext_trans hbw hb2
    have hOH := hOH.keep fun _ h => h.ext hb2
    have hTH := hTH.keep fun _ _ h => h.ext hb2
    clear hb2 hOC hTC
    go_wp2_with fail
    refine (refLeast_any bh g.lives.length ch g.h.toNat ih H _ hOH HL.out.2 hTH hn12 (by omega) (Lib.hid fun p => HC.out.2.1.pos light_one p)).mono ?_
    rintro e w4 ⟨l2, A2, d2, HE2, rfl, hA2, hm2, hb2⟩
    obtain ⟨B0, c1, c2, c3⟩ := B0.go hb2
    have hbw := ext_trans hbw hb2
    have hA1 := hA1.ext RInt.stable hb2
    clear hb2 hOH hTH hcc hcm hhc hhm
    go_wp2_with fail
    refine (costs_any _ _ _ _ g v t _ (hG.ext hbw)).mono ?_
    rw [H0.out]
    rintro e w5 ⟨l3, A3, d3, hl3, rfl, hA3, hm3, hb2⟩
    have HQ1 : Hid (l3 = l1) := Lib.hid ((costs_good H0.out hl3).eq ⟨C, HC.out.1, by rw [HE1.out, leastsL_is]⟩)
    obtain ⟨B0, c1, c2, c3⟩ := B0.go hb2
    have hbw := ext_trans hbw hb2
    have hA1 := hA1.ext RInt.stable hb2
    have hA2 := hA2.ext RInt.stable hb2
    rw [HQ1.out] at hA3 hm3 ⊢
    clear hb2 hl3
    go_wp2_with fail
    refine (hopsum_any _ _ _ _ g v t _ (hG.ext hbw)).mono ?_
    rw [H0.out]
    rintro e w6 ⟨l4, A4, d4, hl4, rfl, hA4, hm4, hb2⟩
    have HQ2 : Hid (l4 = l2) := Lib.hid ((costs_good H0.out hl4).eq ⟨H, HC.out.2.1, by rw [HE2.out, leastsL_is]⟩)
    obtain ⟨B0, c1, c2, c3⟩ := B0.go hb2
    have hbw := ext_trans hbw hb2
    have hA1 := hA1.ext RInt.stable hb2
    have hA2 := hA2.ext RInt.stable hb2
    have hA3 := hA3.ext RInt.stable hb2
    rw [HQ2.out] at hA4 hm4 ⊢
    clear hb2 hl4
    go_wp2_with fail
    refine (equalSame_any _ _ _ _ l1 _ _ _ hA3 hA1 hm3 rfl rfl).mono ?_
    rintro e w7 ⟨rfl, hb2⟩
    obtain ⟨B0, c1, c2, c3⟩ := B0.go hb2
    have hbw := ext_trans hbw hb2
    have hA2 := hA2.ext RInt.stable hb2
    have hA4 := hA4.ext RInt.stable hb2
    clear hb2
    go_wp2_with fail
    refine (equalSame_any _ _ _ _ l2 _ _ _ hA4 hA2 hm4 rfl rfl).mono ?_
    rintro e w8 ⟨rfl, hb2⟩
    obtain ⟨B0, c1, c2, c3⟩ := B0.go hb2
    have hbw := ext_trans hbw hb2
    clear hb2 hA1 hA2 hA3 hA4
    go_wp2_with fail
    refine (refGraph_any _ _ _ _ g _ (hG.ext hbw)).mono ?_
    by_cases hg : graphErr g = 0
    case neg =>
      have hgn : (graphErr g == 0) = false := by simpa using hg
      have HK := Lib.hid (FastOk.bad (v := v) (u := u) hg)
      clear hg
      rintro e w9 ⟨rfl, hb2⟩
      obtain ⟨B0, c1, c2, c3⟩ := B0.go hb2
      have hbw := ext_trans hbw hb2
      clear hb2
      go_wp2_with fail
      refine (fastest_any _ _ _ _ g v u _ (hG.ext hbw)).mono ?_
      rintro e w12 ⟨d, a, er, HF, rfl, hb2⟩
      have hbw := ext_trans hbw hb2
      obtain ⟨rfl, rfl, rfl⟩ := HF.out.eq HK.out
      clear hb2
      go_wp2_with fail
      go_ret
      exact ⟨by simp, hbw⟩
    case pos =>
      have HG := Lib.hid hg
      rw [hg]
      clear hg
      rintro e w9 ⟨rfl, hb2⟩
      obtain ⟨B0, c1, c2, c3⟩ := B0.go hb2
      have hbw := ext_trans hbw hb2
      clear hb2
      cases hv : inB v 0 ((g.lives.length : Int) - 1)
      case false =>
        have HK := Lib.hid (FastOk.out (v := v) (u := u) HG.out (fun h => by have := inB_iff.2 (show 0 ≤ v ∧ v ≤ (g.lives.length : Int) - 1 by omega); rw [hv] at this; simp at this))
        go_wp2_with (go_at_call 46; refine (in_any _ _ _ _).mono ?_; rintro e w' ⟨rfl, rfl⟩)
        refine (fastest_any _ _ _ _ g v u _ (hG.ext hbw)).mono ?_
        rintro e w12 ⟨d, a, er, HF, rfl, hb2⟩
        have hbw := ext_trans hbw hb2
        obtain ⟨rfl, rfl, rfl⟩ := HF.out.eq HK.out
        clear hb2
        go_wp2_with fail
        go_ret
        exact ⟨by simp, hbw⟩
      case true =>
        have hvi := inB_iff.1 hv
        cases hu : inB u 0 ((g.lives.length : Int) - 1)
        case false =>
          have HK := Lib.hid (FastOk.out (v := v) (u := u) HG.out (fun h => by have := inB_iff.2 (show 0 ≤ u ∧ u ≤ (g.lives.length : Int) - 1 by omega); rw [hu] at this; simp at this))
          go_wp2_with (go_at_call 46; refine (in_any _ _ _ _).mono ?_; rintro e w' ⟨rfl, rfl⟩)
          refine (fastest_any _ _ _ _ g v u _ (hG.ext hbw)).mono ?_
          rintro e w12 ⟨d, a, er, HF, rfl, hb2⟩
          have hbw := ext_trans hbw hb2
          obtain ⟨rfl, rfl, rfl⟩ := HF.out.eq HK.out
          clear hb2
          go_wp2_with fail
          go_ret
          exact ⟨by simp, hbw⟩
        case true =>
          have hui := inB_iff.1 hu
          go_wp2_with (go_at_call 46; refine (in_any _ _ _ _).mono ?_; rintro e w' ⟨rfl, rfl⟩)
          refine (refFastest_any _ _ _ _ g v u _ (hG.ext hbw) HG.out (by omega) (by omega)).mono ?_
          rintro e w10 ⟨d', a', er', HK, rfl, hb2⟩
          obtain ⟨B0, c1, c2, c3⟩ := B0.go hb2
          have hbw := ext_trans hbw hb2
          clear hb2
          go_wp2_with fail
          refine (fastest_any _ _ _ _ g v u _ (hG.ext hbw)).mono ?_
          rintro e w12 ⟨d, a, er, HF, rfl, hb2⟩
          have hbw := ext_trans hbw hb2
          obtain ⟨rfl, rfl, rfl⟩ := HF.out.eq HK.out
          clear hb2
          go_wp2_with fail
          go_ret
          exact ⟨by simp, hbw⟩
end Go.Proofs.Ytcgnalpcbcpmkaa
