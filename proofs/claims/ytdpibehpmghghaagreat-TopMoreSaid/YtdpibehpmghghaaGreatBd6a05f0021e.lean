/- Several texts in one: Least, Depart, Ints, Early0, Said. -/
import Derived.Test.YtdpibehpmghghaaGreatBdcd95ff1835
import Derived.Test.YtdpibehpmghghaaGreatBd02739a15af
import Derived.Test.YtdpibehpmghghaaGreatBd8ba506424c
import Derived.Test.YtdpibehpmghghaaGreatBd0874a0c190
import Derived.Test.YtdpibehpmghghaaGreatBdbca928d534
import Derived.Test.YtdpibehpmghghaaGreatBdd341b869f0
import Derived.Test.YtdpibehpmghghaaGreatBd92cd07abee
/- The walks of the table's least, of the sums, of Costs and Hops. -/
namespace Go.Proofs.YtdpibehpmghghaaGreat
open Go.RowKit

set_option maxRecDepth 100000 in
set_option maxHeartbeats 4000000 in
theorem least_any (tb b1 b2 n v : Nat) (B : Tab Int) (A A' : Option Addr) (c c' : Nat) (g : GraphD) (w : World) (hT : Blk w tb 172 #[.map (some b1), .map (some b2)]) (hB : TabAt iV2 w b1 n B) (hh0 : 1 ≤ g.h) (hh1 : g.h ≤ 100) (hv : v ≤ 1000) :
    Calls Tryz.prog 83 #[.pointer (some ⟨tb, 0, none⟩), gV A c A' c' g, .int .i64 (v : Int)] w fun e w' => e = .returned (.tuple #[.int .i64 (leastN (vT B) v g.h.toNat).1, .int .i64 (leastN (vT B) v g.h.toNat).2]) ∧ Below w.heap.size w w' := by
  go_enter Tryz.func83, Tryz.ntmps83
  go_wp2_with fail
  have HT := hT.alloc (Obj.cells (gC A c A' c' g) 25)
  have HB := hB.alloc (Obj.cells (gC A c A' c' g) 25)
  have hbw : Below w.heap.size w (w.alloc (Obj.cells (gC A c A' c' g) 25)) := by go_grown
  obtain ⟨wa, hwa⟩ : ∃ wa : World, wa = w.alloc (Obj.cells (gC A c A' c' g) 25) := ⟨_, rfl⟩
  rw [← hwa] at HT HB hbw ⊢
  clear hwa hT hB
  go_loopw [8, 9, 15] (fun b a x wr => ∃ (k : Nat) (bb aa : Int), (k : Int) ≤ g.h ∧ x = .int .i64 k ∧ b = .int .i64 bb ∧ a = .int .i64 aa ∧ Hid (leastN (vT B) v k = (bb, aa)) ∧ wr = wa) (fun _ _ x _ => g.h.toNat - (intOf x).toNat)
  case atStart => exact ⟨0, Never, 0, by omega, rfl, rfl, rfl, Lib.hid rfl, rfl⟩
  case round =>
    obtain ⟨k, bb, aa, hk, rfl, rfl, rfl, HL, rfl⟩ := hrel
    have hbb : bb ≤ Never := by have := leastN_le (vT B) v k; rw [HL.out] at this; exact this
    by_cases hlt : (k : Int) < g.h
    case neg =>
      have hE : Hid (leastN (vT B) v g.h.toNat = (bb, aa)) := Lib.hid (by rw [show g.h.toNat = k by omega]; exact HL.out)
      go_wp2_with fail
      go_ret2
      exact ⟨by rw [hE.out]; rfl, hbw⟩
    obtain ⟨t1, t2, t3⟩ := HT.facts
    have hlook := HB.look Tryz.underlying169 (zero_best _) (p := (v, k)) (by unfold Sml; omega)
    cases hp : B (v, k) with
    | none =>
      rw [hp] at hlook
      simp only [Option.map_none, Option.getD_none, Option.isSome_none] at hlook
      have HN : Hid (leastN (vT B) v (k + 1) = (bb, aa)) := Lib.hid (by rw [leastN, HL.out, vT_none hp, if_neg (by simp only; omega)])
      clear hp
      go_wp2_with fail
      go_roundw
      case rel => exact ⟨k + 1, bb, aa, by omega, by go_num, rfl, rfl, HN, by trivial⟩
      case measure => simp [intOf]; omega
    | some m =>
      rw [hp] at hlook
      simp only [Option.map_some, Option.getD_some, Option.isSome_some, iV2] at hlook
      by_cases hm : m < bb
      case pos =>
        have hd : decide (m < bb) = true := by simpa using hm
        have HN : Hid (leastN (vT B) v (k + 1) = (m, (k : Int))) := Lib.hid (by rw [leastN, HL.out, vT_some hp, if_pos (by simp only; omega)])
        clear hp
        go_wp2_with fail
        go_roundw
        case rel => exact ⟨k + 1, m, k, by omega, by go_num, rfl, rfl, HN, by trivial⟩
        case measure => simp [intOf]; omega
      case neg =>
        have hd : decide (m < bb) = false := by simpa using hm
        have HN : Hid (leastN (vT B) v (k + 1) = (bb, aa)) := Lib.hid (by rw [leastN, HL.out, vT_some hp, if_neg (by simp only; omega)])
        clear hp
        go_wp2_with fail
        go_roundw
        case rel => exact ⟨k + 1, bb, aa, by omega, by go_num, rfl, rfl, HN, by trivial⟩
        case measure => simp [intOf]; omega

set_option maxRecDepth 100000 in
set_option maxHeartbeats 4000000 in
theorem sums_any (kf : Nat) (wt : LegD → Int) (A A' : Option Addr) (c c' : Nat) (g : GraphD) (v s : Int) (w : World) (hent : Enters Tryz.prog kf) (hG : GraphAt w A c A' c' g) (hw : Valid g → Light g wt)
    (hcost : ∀ l w, Calls Tryz.prog kf #[legV l] w fun e w' => e = .returned (.int .i64 (wt l)) ∧ Below w.heap.size w w') :
    Calls Tryz.prog 58 #[gV A c A' c' g, .int .i64 v, .int .i64 s, .func (.func kf) #[] #[]] w (IntsOut (CostsOut g wt v s) (placeErr g v s) w) := by
  by_cases h0 : placeErr g v s = 0
  case neg =>
    have H0 := Lib.hid h0
    have hn : (placeErr g v s != 0) = true := by simp [h0]
    clear h0 hcost
    go_enter Tryz.func58, Tryz.ntmps58
    go_wp2_with fail
    refine (out_any _ _ _ _ g v s _ (hG.ext (by go_grown))).mono ?_
    rintro e w1 ⟨Ao, co, rfl, hSo, hmo, hb1⟩
    go_wp2_with fail
    go_ret2
    exact ⟨[], none, 0, by unfold CostsOut; rw [if_neg H0.out], rfl, SlAt.nil, by simp, ext_trans (by go_grown) hb1⟩
  obtain ⟨hV, ⟨hv0, hv1⟩, ht0, ht1⟩ := place_of h0
  have H0 := Lib.hid h0
  have hh1 := hV.h1
  have hh0 := hV.h0
  have hn12 := hV.nl
  have m1 : g.lives.length ≤ 9223372036854775807 := by omega
  have HC := Lib.hid hcost
  clear h0 hcost
  obtain ⟨i0, hi, hz0, hz1, hz2⟩ := info_parts' info_int
  go_enter Tryz.func58, Tryz.ntmps58
  go_wp2_with fail
  refine (out_any _ _ _ _ g v s _ (hG.ext (by go_grown))).mono ?_
  rw [H0.out]
  rintro e w1 ⟨Ao, co, rfl, hSo, hmo, hb1⟩
  obtain ⟨B0, c1, c2, c3⟩ := (Blk.new w 25 (gC A c A' c' g)).go hb1
  have hbw : Below w.heap.size w w1 := ext_trans (by go_grown) hb1
  clear hb1
  go_wp2_with fail
  refine (fill_any kf wt _ _ _ _ g v s _ hent (hG.ext hbw) hV (hw hV) hv0 hv1 ht0 ht1 HC.out).mono ?_
  rintro e w2 ⟨tb, b1, b2, n, t, B, O, rfl, HI, hT, hB, hO, hb2⟩
  obtain ⟨B0, c1, c2, c3⟩ := B0.go hb2
  have hbw : Below w.heap.size w w2 := ext_trans hbw hb2
  have HCL : Hid (CostL g wt v s (vT B)) := Lib.hid (HI.out.1.ends hV ⟨hv0, hv1⟩ ht0 HI.out.2)
  clear hb2 HI hO
  go_wp2_with fail
  clear c1 c2
  go_loopw [13, 35] (fun o x wr => ∃ (k : Nat) (lo : List Int), k ≤ g.lives.length ∧ x = .int .i64 k ∧ Hid (lo = (leastL g (vT B)).take k) ∧ lo.length ≤ 12 ∧ Own intEncN 1 wr w2.heap.size 3 o lo ∧ Below w2.heap.size w2 wr) (fun _ x _ => g.lives.length - (intOf x).toNat)
  case atStart => exact ⟨0, [], Nat.zero_le _, rfl, Lib.hid (by simp), by simp, Own.nil, Below.refl _ _⟩
  case round =>
    obtain ⟨k, lo, hk, rfl, HLO, hlo, hown, hb⟩ := hrel
    have hbwr := ext_trans hbw hb
    obtain ⟨f1, f2, f3⟩ := (B0.ext hb).facts
    have hT' := hT.ext hb
    have hB' := hB.ext hb
    have hzs := hb.size
    by_cases hlt : k < g.lives.length
    case pos =>
      have HN : Hid (lo ++ [(leastN (vT B) k g.h.toNat).1] = (leastL g (vT B)).take (k + 1)) := Lib.hid (by rw [HLO.out, List.take_add_one, leastL_get hlt]; rfl)
      have hlk : lo.length ≤ k := by rw [HLO.out, List.length_take]; omega
      obtain ⟨Ao2, co2, rfl⟩ := hown.form
      go_wp2_with fail
      refine (least_any tb b1 b2 n k B A A' c c' g _ hT' hB' hh0 hh1 (by omega)).mono ?_
      obtain ⟨q, hq⟩ : ∃ q, leastN (vT B) k g.h.toNat = q := ⟨_, rfl⟩
      rw [hq] at HN ⊢
      obtain ⟨q1, q2⟩ := q
      clear hq
      rintro e w3 ⟨rfl, hb3⟩
      have hown := hown.keep (fun b cs h => (Blk.go h hb3).1)
      have hb := ext_trans hb hb3
      have hz3 := hb.size
      clear hb3 hT' hB' f1 f2 f3
      go_wp2_with (at_builtin; refine wpList_append_els (enc := intEncN) rfl (.tmp 45) (.tmp 47) 38 rfl w2.heap.size 3 i0 _ 1 8 Tryz.underlying38 hi hz0 hz1 hz2 rfl (by decide) _ lo [q1] 1 rfl rfl hown _ rfl w3.heap.size (by simp) rfl rfl int_one1N (by omega) (by decide) hz3 ?_; intro v' w8 hown8 hb8 hkp8)
      go_roundw
      case rel => exact ⟨k + 1, lo ++ [q1], by omega, by go_num, HN, by simp; omega, hown8, hb.trans hb8⟩
      case measure => simp [intOf]; omega
    case neg =>
      have HE : Hid (lo = leastL g (vT B)) := Lib.hid (by rw [HLO.out, List.take_of_length_le]; rw [leastL_len]; omega)
      have hi64 : ∀ x, x ∈ lo → I64 x := fun x hx => by
        rw [HE.out] at hx
        simp only [leastL, List.mem_map, List.mem_range] at hx
        obtain ⟨u, _, rfl⟩ := hx
        have h1 := leastN_le (vT B) u g.h.toNat
        have h2 : 0 ≤ (leastN (vT B) u g.h.toNat).1 := by
          rcases Int.lt_or_le (leastN (vT B) u g.h.toNat).1 Never with h | h
          · obtain ⟨r, _, _, h3⟩ := leastN_at h
            rw [← h3]; exact HCL.out.pos (hw hV) _
          · simp only [Never] at h; omega
        unfold I64
        simp only [Never] at h1
        omega
      obtain ⟨Ar, cr, rfl, hSr⟩ := own_intsN hown hi64
      go_wp2_with fail
      go_ret2
      rw [H0.out]
      exact ⟨lo, Ar, cr, by unfold CostsOut; rw [if_pos H0.out]; exact ⟨_, HCL.out, HE.out⟩, rfl, hSr, by unfold maxLen; omega, hbwr⟩

theorem cost_any (l : LegD) (w : World) : Calls Tryz.prog 59 #[legV l] w fun e w' => e = .returned (.int .i64 (lCost l)) ∧ Below w.heap.size w w' := by
  go_enter Tryz.func59, Tryz.ntmps59
  go_wp2
  go_ret
  exact ⟨rfl, by go_grown⟩
theorem enters_cost : Enters Tryz.prog 59 := enters_of Tryz.func59 (by kernel_rfl) rfl
set_option maxRecDepth 100000 in
theorem costs_any (A A' : Option Addr) (c c' : Nat) (g : GraphD) (v s : Int) (w : World) (hG : GraphAt w A c A' c' g) :
    Calls Tryz.prog 29 #[gV A c A' c' g, .int .i64 v, .int .i64 s] w (IntsOut (CostsOut g lCost v s) (placeErr g v s) w) := by
  go_enter Tryz.func29, Tryz.ntmps29
  go_wp2_with fail
  refine (sums_any 59 lCost _ _ _ _ g v s _ enters_cost (hG.ext (by go_grown)) light_cost cost_any).mono ?_
  rintro e w1 ⟨l, Ar, cr, hl, rfl, hS, hm, hb⟩
  have HL := Lib.hid hl
  clear hl
  go_wp2_with fail
  go_ret2
  exact ⟨l, Ar, cr, HL.out, rfl, hS, hm, ext_trans (by go_grown) hb⟩
end Go.Proofs.YtdpibehpmghghaaGreat
/- The walk of early.Departures. -/
namespace Go.Proofs.YtdpibehpmghghaaGreat
open Go.RowKit

def DepOut (g : GraphD) (v t : Int) (l : List Int) : Prop := if placeErr g v t = 0 then LateL g v t l else l = []
theorem LateL.low {g : GraphD} {v t : Int} {l : List Int} (h : LateL g v t l) (ht : 0 ≤ t) (i : Nat) : -1 ≤ gi l i := by
  have h1 : - gi l i ≤ - gi (startL g v t) i := h.2.1.1 i
  have h2 := startL_low (g := g) (v := v) ht i
  omega
theorem LateL.high {g : GraphD} {v t : Int} {l : List Int} (hV : Valid g) (h : LateL g v t l) (ht : t ≤ 100) (i : Nat) : gi l i ≤ 100 := late_high hV ht h.2.2 i
theorem fill_minus {n : Nat} {l : List Int} (hl : l.length = n) (h : ∀ i, i < n → gi l i = -1) : l = List.replicate n (-1) :=
  gi_eq_of (by simp [hl]) fun i hi => by rw [h i (by omega)]; exact (gi_of (by simp [hl ▸ hi])).symm

end Go.Proofs.YtdpibehpmghghaaGreat
/- Lists of numbers that are told, with an error; two lists that are the same. -/
namespace Go.Proofs.YtdpibehpmghghaaGreat
open Go.RowKit

/-- A list of numbers that is as it should be, and no error. -/
def IntsGood (P : List Int → Prop) (w : World) (e : Ending) (w' : World) : Prop := ∃ l A c, Hid (P l) ∧ e = .returned (.tuple #[.slice A l.length c, .int .i64 0]) ∧ SlAt RInt 1 w' A l ∧ l.length ≤ maxLen ∧ Below w.heap.size w w'
def IntsBad (er : Int) (w : World) (e : Ending) (w' : World) : Prop := ∃ A c, e = .returned (.tuple #[.slice A 0 c, .int .i64 er]) ∧ Below w.heap.size w w'
section
variable {P Q : List Int → Prop} {er : Int} {w w' : World} {e : Ending}
theorem ints_good (h : IntsOut P er w e w') (h0 : er = 0) (hpq : ∀ l, P l → Q l) : IntsGood Q w e w' := by
  subst h0
  obtain ⟨l, A, c, hl, he, h1, h2, h3⟩ := h
  exact ⟨l, A, c, Lib.hid (hpq l hl), he, h1, h2, h3⟩
theorem ints_bad (h : IntsOut P er w e w') (hpq : ∀ l, P l → l = []) : IntsBad er w e w' := by
  obtain ⟨l, A, c, hl, he, h1, h2, h3⟩ := h
  obtain rfl := hpq l hl
  exact ⟨A, c, he, h3⟩
end
theorem equalNil_any (A B : Option Addr) (c d : Nat) (w : World) : Calls Tryz.prog 54 #[.slice A 0 c, .slice B 0 d] w fun e w' => e = .returned (.bool true) ∧ Below w.heap.size w w' :=
  (equalInts_anyA A B c d [] [] w SlAt.nil SlAt.nil (by simp) (by simp)).mono fun e w' ⟨h1, h2⟩ => ⟨by rw [h1]; simp, h2⟩
theorem equalSame_any (A B : Option Addr) (c d : Nat) (l : List Int) (n m : Nat) (w : World) (hA : SlAt RInt 1 w A l) (hB : SlAt RInt 1 w B l) (hl : l.length ≤ maxLen) (hn : l.length = n) (hm : l.length = m) :
    Calls Tryz.prog 54 #[.slice A n c, .slice B m d] w fun e w' => e = .returned (.bool true) ∧ Below w.heap.size w w' := by
  subst hn; subst hm
  exact (equalInts_anyA A B c d l l w hA hB hl hl).mono fun e w' ⟨h1, h2⟩ => ⟨by rw [h1]; simp, h2⟩

theorem SlAt.cells {w : World} {A : Option Addr} {l : List Int} (h : SlAt RInt 1 w A l) (h0 : 0 < l.length) : ∃ b off, A = some ⟨b, off, none⟩ ∧ b < w.heap.size ∧ ∀ i, i < l.length → w.cell? ⟨b, off + i, none⟩ = some (.int .i64 (gi l i)) := by
  obtain ⟨b, off, h⟩ := h
  obtain ⟨rfl, hb, _⟩ := h 0 _ (gi_get h0)
  refine ⟨b, off, rfl, hb, fun i hi => ?_⟩
  obtain ⟨_, _, h2, _⟩ := h i _ (gi_get hi)
  simpa [cellIs] using h2
end Go.Proofs.YtdpibehpmghghaaGreat
/- The walk of timekeep.early0: the times of the pair are as they should be. -/
namespace Go.Proofs.YtdpibehpmghghaaGreat
open Go.RowKit

section
variable {g : GraphD} {v t : Int} {l : List Int}
theorem arr_good (h : placeErr g v t = 0) : ArrOut g v t l → EarlyL g v t l := fun hl => by unfold ArrOut at hl; rwa [if_pos h] at hl
theorem arr_bad (h : ¬ placeErr g v t = 0) : ArrOut g v t l → l = [] := fun hl => by unfold ArrOut at hl; rwa [if_neg h] at hl
theorem dep_good (h : placeErr g v t = 0) : DepOut g v t l → LateL g v t l := fun hl => by unfold DepOut at hl; rwa [if_pos h] at hl
theorem dep_bad (h : ¬ placeErr g v t = 0) : DepOut g v t l → l = [] := fun hl => by unfold DepOut at hl; rwa [if_neg h] at hl
theorem place_ok (hV : Valid g) (h0 : 0 ≤ v) (h1 : v < g.lives.length) (h2 : 0 ≤ t) (h3 : t < g.h) : placeErr g v t = 0 := by
  unfold placeErr
  rw [if_pos (valid_ok hV), if_pos (inB_iff.2 (by omega)), if_pos (inB_iff.2 (by omega))]
end
theorem pair_place0 : placeErr pairG 0 0 = 0 := by decide
theorem pair_place1 : placeErr pairG 1 5 = 0 := by decide
theorem ints2_at {w : World} {g : Nat} {a b : Int} (h : Blk w g 3 #[.int .i64 a, .int .i64 b]) (ha : I64 a) (hb : I64 b) : SlAt RInt 1 w (some ⟨g, 0, none⟩) [a, b] :=
  IRow.slAt (l := [a, b]) h fun k hk => by
    match k, hk with
    | 0, _ => exact ha
    | 1, _ => exact hb
    | k + 2, hk => exact absurd hk (by simp)

end Go.Proofs.YtdpibehpmghghaaGreat
/- The walks of timetop.line and timetop.said: a line's way is told rightly. -/
namespace Go.Proofs.YtdpibehpmghghaaGreat
open Go.RowKit

theorem slAt3 {α : Type} {R : World → Nat → Nat → α → Prop} {sz : Nat} {w : World} {b : Nat} {x y z : α} (hb : b < w.heap.size) (h : R w b 0 x) (h2 : R w b sz y) (h3 : R w b (2 * sz) z) : SlAt R sz w (some ⟨b, 0, none⟩) [x, y, z] :=
  ⟨b, 0, fun i u hu => by
    match i, hu with
    | 0, hu =>
      obtain rfl : x = u := by simpa using hu
      exact ⟨rfl, hb, by simpa using h⟩
    | 1, hu =>
      obtain rfl : y = u := by simpa using hu
      exact ⟨rfl, hb, by simpa using h2⟩
    | 2, hu =>
      obtain rfl : z = u := by simpa using hu
      exact ⟨rfl, hb, by simpa using h3⟩
    | i + 3, hu => simp at hu⟩
theorem ints3_at {w : World} {g : Nat} {a b c : Int} (h : Blk w g 3 #[.int .i64 a, .int .i64 b, .int .i64 c]) (ha : I64 a) (hb : I64 b) (hc : I64 c) : SlAt RInt 1 w (some ⟨g, 0, none⟩) [a, b, c] :=
  IRow.slAt (l := [a, b, c]) h fun k hk => by
    match k, hk with
    | 0, _ => exact ha
    | 1, _ => exact hb
    | 2, _ => exact hc
    | k + 3, hk => exact absurd hk (by simp)

set_option maxHeartbeats 1000000 in
theorem line_any (w : World) : Calls Tryz.prog 52 #[] w (GraphOut lineG w) := by
  go_enter Tryz.func52, Tryz.ntmps52
  go_wp2
  refine bodyPost_ret (v := gV (some ⟨w.heap.size + 1, 0, none⟩) 3 (some ⟨w.heap.size + 4, 0, none⟩) 2 lineG) (by simp [results, Tryz.results52, go_sem, lineG]) rfl ?_
  refine ⟨some ⟨w.heap.size + 1, 0, none⟩, 3, some ⟨w.heap.size + 4, 0, none⟩, 2, rfl, ⟨by simp [I64, lineG], by simp [lineG], by simp [maxLen], by simp [lineG], by simp [maxLen], ?_, ?_⟩, by go_grown⟩
  · refine slAt3 (by simp) ?_ ?_ ?_ <;> simp [RIvl, cellIs, I64, go_sem]
  · refine slAt2 (by simp) ⟨⟨by simp [cellIs, go_sem], by simp [cellIs, go_sem], some ⟨w.heap.size + 2, 0, none⟩, 2, by simp [cellIs, go_sem], by simp, by simp [maxLen], slAt2 (by simp) (by simp [RLeg, cellIs, I64, go_sem]) (by simp [RLeg, cellIs, I64, go_sem])⟩, by simp [I64], by simp [I64]⟩
      ⟨⟨by simp [cellIs, go_sem], by simp [cellIs, go_sem], some ⟨w.heap.size + 3, 0, none⟩, 1, by simp [cellIs, go_sem], by simp, by simp [maxLen], slAt1 (by simp) (by simp [RLeg, cellIs, I64, go_sem])⟩, by simp [I64], by simp [I64]⟩
theorem line_place : placeErr lineG 0 0 = 0 := by decide
theorem costs_good {g : GraphD} {wt : LegD → Int} {v t : Int} {l : List Int} (h : placeErr g v t = 0) : CostsOut g wt v t l → CostsL g wt v t l := fun hl => by unfold CostsOut at hl; rwa [if_pos h] at hl
theorem costs_bad {g : GraphD} {wt : LegD → Int} {v t : Int} {l : List Int} (h : ¬ placeErr g v t = 0) : CostsOut g wt v t l → l = [] := fun hl => by unfold CostsOut at hl; rwa [if_neg h] at hl
theorem line_wayR {hops : List HopD} {er : Int} (h : EWayR lineG 0 0 2 hops er) : hops = [⟨0, 0⟩, ⟨1, 4⟩] ∧ er = 0 := by
  rcases h with ⟨h, _⟩ | ⟨_, a, ha, h⟩
  · exact absurd line_place h
  · have := line_early ha
    rcases h with ⟨h, _⟩ | ⟨_, _, _, h1, h2⟩
    · subst this
      exfalso
      rcases h with h | h | h
      · omega
      · simp [lineG] at h
      · simp [gi, Never] at h
    · exact ⟨line_way ha h2, h1⟩

set_option maxRecDepth 100000 in
set_option maxHeartbeats 2000000 in
theorem said_any (w : World) : Calls Tryz.prog 26 #[] w fun e w' => e = .returned (.bool true) ∧ Below w.heap.size w w' := by
  go_enter Tryz.func26, Tryz.ntmps26
  go_wp2_with fail
  refine (line_any _).mono ?_
  rintro e w1 ⟨Ar, cr, Ar', cr', rfl, hGr, hb1⟩
  go_wp2_with fail
  refine (arrivals_any _ _ _ _ lineG 0 0 _ hGr).mono ?_
  intro e w2 hr
  obtain ⟨l1, A1, d1, HQ, rfl, hA1, hm1, hb2⟩ := ints_good (Q := fun l => l = [0, 2, 7]) hr line_place (fun _ hl => line_early (arr_good line_place hl))
  obtain rfl := HQ.out
  have hbw := ext_trans hb1 hb2
  clear hb1 hb2 hr HQ hGr
  go_wp2_with fail
  refine (line_any _).mono ?_
  rintro e w3 ⟨Br, er, Br', er', rfl, hGr, hb3⟩
  have hA1 := hA1.ext RInt.stable hb3
  have hbw := ext_trans hbw hb3
  clear hb3
  go_wp2_with fail
  refine (costs_any _ _ _ _ lineG 0 0 _ hGr).mono ?_
  intro e w4 hr
  obtain ⟨l2, A2, d2, HQ, rfl, hA2, hm2, hb2⟩ := ints_good (Q := fun l => l = [0, 1, 3]) hr line_place (fun _ hl => line_costs (costs_good line_place hl))
  obtain rfl := HQ.out
  have hA1 := hA1.ext RInt.stable hb2
  have hbw := ext_trans hbw hb2
  clear hb2 hr HQ hGr
  go_wp2_with fail
  refine (line_any _).mono ?_
  rintro e w5 ⟨Cr, gr, Cr', gr', rfl, hGr, hb3⟩
  have hA1 := hA1.ext RInt.stable hb3
  have hA2 := hA2.ext RInt.stable hb3
  have hbw := ext_trans hbw hb3
  clear hb3
  go_wp2_with fail
  refine (earlyWay_any _ _ _ _ lineG 0 0 2 _ hGr).mono ?_
  rintro e w6 ⟨hops, A3, d3, er3, hR, rfl, hA3, hm3, hb2⟩
  obtain ⟨rfl, rfl⟩ := line_wayR hR
  have hA1 := hA1.ext RInt.stable hb2
  have hA2 := hA2.ext RInt.stable hb2
  have hbw := ext_trans hbw hb2
  clear hb2 hR hGr
  go_wp2_with fail
  refine (equalSame_any _ _ _ _ [0, 2, 7] _ _ _ (hA1.ext RInt.stable (by go_grown)) (ints3_at (Blk.new_ rfl) ⟨by decide, by decide⟩ ⟨by decide, by decide⟩ ⟨by decide, by decide⟩) (by simp [maxLen]) rfl rfl).mono ?_
  rintro e w7 ⟨rfl, hb3⟩
  have hb3 : Below w6.heap.size w6 w7 := ext_trans (by go_grown) hb3
  have hA2 := hA2.ext RInt.stable hb3
  have hA3 := hA3.ext RHop.stable hb3
  have hbw := ext_trans hbw hb3
  clear hb3 hA1
  go_wp2_with fail
  refine (equalSame_any _ _ _ _ [0, 1, 3] _ _ _ (hA2.ext RInt.stable (by go_grown)) (ints3_at (Blk.new_ rfl) ⟨by decide, by decide⟩ ⟨by decide, by decide⟩ ⟨by decide, by decide⟩) (by simp [maxLen]) rfl rfl).mono ?_
  rintro e w8 ⟨rfl, hb3⟩
  have hb3 : Below w7.heap.size w7 w8 := ext_trans (by go_grown) hb3
  have hA3 := hA3.ext RHop.stable hb3
  have hbw := ext_trans hbw hb3
  clear hb3 hA2
  go_wp2_with fail
  refine (equalHops_any _ _ _ _ [⟨0, 0⟩, ⟨1, 4⟩] [⟨0, 0⟩, ⟨1, 4⟩] _ (hA3.ext RHop.stable (by go_grown)) (slAt2 (by simp) (by simp [RHop, cellIs, I64, go_sem]) (by simp [RHop, cellIs, I64, go_sem])) (by simp [maxLen]) (by simp [maxLen])).mono ?_
  rintro e w9 ⟨rfl, hb3⟩
  have hb3 : Below w8.heap.size w8 w9 := ext_trans (by go_grown) hb3
  go_wp2_with fail
  go_ret
  exact ⟨by simp, ext_trans hbw hb3⟩
end Go.Proofs.YtdpibehpmghghaaGreat
