/- Several texts in one: ProfOf, Depart, Ints, Early0, LawRises. -/
import Derived.Test.YtcfachfldanddaaBd0e3b3965a6
import Derived.Test.YtcfachfldanddaaBd476b4ef948
import Derived.Test.YtcfachfldanddaaBd9eb0a2c71f
import Derived.Test.YtcfachfldanddaaBd8de54ee088
import Derived.Test.YtcfachfldanddaaBdc60da392f0
import Derived.Test.YtcfachfldanddaaBd3a6f444621
import Derived.Test.YtcfachfldanddaaBd712578e31d
/- The walk of profile.Of. -/
namespace Go.Proofs.Ytcfachfldanddaa
open Go.RowKit Go.Shelf

set_option maxRecDepth 100000 in
set_option maxHeartbeats 8000000 in
theorem profOf_any (A A' : Option Addr) (c c' : Nat) (g : GraphD) (v u : Int) (w : World) (hG : GraphAt w A c A' c' g) :
    Calls Try.prog 52 #[gV A c A' c' g, .int .i64 v, .int .i64 u] w (MapOut (OfSay g v u) w) := by
  have m1 : g.lives.length ≤ 9223372036854775807 := Nat.le_trans hG.lc hG.cm
  by_cases h0 : graphErr g = 0
  case neg =>
    have HS : Hid (OfSay g v u (graphErr g) []) := Lib.hid (by unfold OfSay; rw [if_neg h0]; exact ⟨rfl, rfl⟩)
    have hn : (graphErr g != 0) = true := by simp [h0]
    clear h0
    go_enter Try.func52, Try.ntmps52
    go_wp2_with fail
    refine (check_any _ _ _ _ g _ (hG.ext (by go_grown))).mono ?_
    rintro e w1 ⟨rfl, hb1⟩
    go_wp2_with fail
    go_ret2
    exact ⟨_, [], none, 0, HS, rfl, PiecesAt.nil, ext_trans (by go_grown) hb1⟩
  have H0 := Lib.hid h0
  clear h0
  by_cases hr : (0 ≤ v ∧ v < g.lives.length) ∧ 0 ≤ u ∧ u < g.lives.length
  case neg =>
    have HS : Hid (OfSay g v u 4 []) := Lib.hid (by unfold OfSay; rw [if_pos H0.out, if_neg hr]; exact ⟨rfl, rfl⟩)
    by_cases a1 : v < 0
    · have hd1 : decide (v < 0) = true := by simpa using a1
      clear a1 hr
      go_enter Try.func52, Try.ntmps52
      go_wp2_with fail
      refine (check_any _ _ _ _ g _ (hG.ext (by go_grown))).mono ?_
      rw [H0.out]
      rintro e w1 ⟨rfl, hb1⟩
      obtain ⟨B0, c1, c2, c3⟩ := (Blk.new w 78 (gC A c A' c' g)).go hb1
      go_wp2_with fail
      go_ret2
      exact ⟨_, [], none, 0, HS, rfl, PiecesAt.nil, ext_trans (by go_grown) hb1⟩
    have hd1 : decide (v < 0) = false := by simpa using a1
    by_cases a2 : v ≥ g.lives.length
    · have hd2 : decide (v ≥ (g.lives.length : Int)) = true := by simpa using a2
      clear a1 a2 hr
      go_enter Try.func52, Try.ntmps52
      go_wp2_with fail
      refine (check_any _ _ _ _ g _ (hG.ext (by go_grown))).mono ?_
      rw [H0.out]
      rintro e w1 ⟨rfl, hb1⟩
      obtain ⟨B0, c1, c2, c3⟩ := (Blk.new w 78 (gC A c A' c' g)).go hb1
      go_wp2_with fail
      go_ret2
      exact ⟨_, [], none, 0, HS, rfl, PiecesAt.nil, ext_trans (by go_grown) hb1⟩
    have hd2 : decide (v ≥ (g.lives.length : Int)) = false := by simpa using a2
    by_cases a3 : u < 0
    · have hd3 : decide (u < 0) = true := by simpa using a3
      clear a1 a2 a3 hr
      go_enter Try.func52, Try.ntmps52
      go_wp2_with fail
      refine (check_any _ _ _ _ g _ (hG.ext (by go_grown))).mono ?_
      rw [H0.out]
      rintro e w1 ⟨rfl, hb1⟩
      obtain ⟨B0, c1, c2, c3⟩ := (Blk.new w 78 (gC A c A' c' g)).go hb1
      go_wp2_with fail
      go_ret2
      exact ⟨_, [], none, 0, HS, rfl, PiecesAt.nil, ext_trans (by go_grown) hb1⟩
    have hd3 : decide (u < 0) = false := by simpa using a3
    have hd4 : decide (u ≥ (g.lives.length : Int)) = true := by simp only [decide_eq_true_eq]; omega
    clear a1 a2 a3 hr
    go_enter Try.func52, Try.ntmps52
    go_wp2_with fail
    refine (check_any _ _ _ _ g _ (hG.ext (by go_grown))).mono ?_
    rw [H0.out]
    rintro e w1 ⟨rfl, hb1⟩
    obtain ⟨B0, c1, c2, c3⟩ := (Blk.new w 78 (gC A c A' c' g)).go hb1
    go_wp2_with fail
    go_ret2
    exact ⟨_, [], none, 0, HS, rfl, PiecesAt.nil, ext_trans (by go_grown) hb1⟩
  have HR := Lib.hid hr
  obtain ⟨⟨hv0, hv1⟩, hu0, hu1⟩ := hr
  have hV := valid_of H0.out
  have hh1 := hV.h1
  have hhp := hV.h0
  have hd1 : decide (v < 0) = false := by simpa using hv0
  have hd2 : decide (v ≥ (g.lives.length : Int)) = false := by simpa using hv1
  have hd3 : decide (u < 0) = false := by simpa using hu0
  have hd4 : decide (u ≥ (g.lives.length : Int)) = false := by simpa using hu1
  go_enter Try.func52, Try.ntmps52
  go_wp2_with fail
  refine (check_any _ _ _ _ g _ (hG.ext (by go_grown))).mono ?_
  rw [H0.out]
  rintro e w1 ⟨rfl, hb1⟩
  obtain ⟨B0, c1, c2, c3⟩ := (Blk.new w 78 (gC A c A' c' g)).go hb1
  have hbw : Below w.heap.size w w1 := ext_trans (by go_grown) hb1
  clear hb1
  go_wp2_with fail
  go_loopw [10, 40] (fun o x wr => ∃ (k : Nat) (Ao : Option Addr) (co : Nat) (m : List PieceD), (k : Int) ≤ g.h ∧ x = .int .i64 k ∧ o = .slice Ao m.length co ∧ Hid (mapErr m = 0 ∧ ∀ t, atM m t = profTo g v u k t) ∧ PiecesAt wr Ao co m ∧ Below w1.heap.size w1 wr) (fun _ x _ => g.h.toNat - (intOf x).toNat)
  case atStart => exact ⟨0, none, 0, [], by simp; omega, rfl, rfl, Lib.hid ⟨mapErr_ok (by simp) MapOk.nil, fun t => by rw [profTo_zero]; rfl⟩, PiecesAt.nil, Below.refl _ _⟩
  case round =>
    obtain ⟨k, Ao, co, m, hk, rfl, rfl, HM, hO, hb⟩ := hrel
    have hbr := ext_trans hbw hb
    by_cases hlt : (k : Int) < g.h
    case neg =>
      have hd : decide ((k : Int) < g.h) = false := by simpa using hlt
      have HS : Hid (OfSay g v u 0 m) := Lib.hid (by
        unfold OfSay
        rw [if_pos H0.out, if_pos HR.out]
        exact ⟨rfl, (mapErr_zero HM.out.1).2.map, fun t => by rw [HM.out.2, profTo_end (by omega)], HM.out.1⟩)
      go_wp2_with fail
      go_ret2
      exact ⟨0, m, Ao, co, HS, rfl, hO, hbr⟩
    case pos =>
      have hd : decide ((k : Int) < g.h) = true := by simpa using hlt
      have hpl : placeErr g v k = 0 := placeErr_0 H0.out (by simp [inB]; omega) (by simp [inB]; omega)
      have HPL := Lib.hid hpl
      obtain ⟨B1, d1, d2, d3⟩ := B0.go hb
      have hAr := arrivals_any A A' c c' g v k wr (hG.ext hbr)
      rw [hpl] at hAr
      clear hpl c1 c2 c3
      go_wp2_with fail
      refine hAr.mono ?_
      rintro e w2 ⟨l, A1, e1, hl1, rfl, hA1, hm1, hb2⟩
      clear hAr d1 d2 d3
      have hE : EarlyL g v k l := by unfold ArrOut at hl1; rwa [if_pos HPL.out] at hl1
      have hlen : l.length = g.lives.length := hE.1
      obtain ⟨x, hx⟩ := get_lt (show u.toNat < l.length by omega)
      obtain ⟨b, off, hS⟩ := hA1
      obtain ⟨rfl, hbl, hcx, hx64⟩ := hS u.toNat x hx
      have hcx : w2.cell? ⟨b, off + u.toNat, none⟩ = some (.int .i64 x) := by have h : cellIs w2 b (off + u.toNat * 1) (.int .i64 x) := hcx; rwa [Nat.mul_one] at h
      have HF : Hid (profF g v u k = if x < Never then some x else none) := Lib.hid (by have := profF_of (u := u) HPL.out hE; rwa [gi_of hx] at this)
      have hjl2 : u < (l.length : Int) := by omega
      have hkw : IntKind.i64.wrap ((k : Int) + 1) = (k : Int) + 1 := IntWalk.i64_in _ (by omega)
      have hO := hO.ext hb2
      have hb := ext_trans hb hb2
      clear hS hE hl1 hlen hx
      by_cases hn : x < Never
      case neg =>
        have hd5 : decide (x < 1099511627776) = false := by simpa [Never] using hn
        have HN : Hid (mapErr m = 0 ∧ ∀ t, atM m t = profTo g v u (k + 1) t) := Lib.hid ⟨HM.out.1, fun t => by rw [HM.out.2, profTo_none (by rw [HF.out, if_neg hn])]⟩
        clear hn
        go_wp2_with fail
        go_roundw
        case rel => exact ⟨k + 1, Ao, co, m, by omega, by go_num, rfl, HN, hO, hb⟩
        case measure => simp [intOf]; omega
      case pos =>
        have hd5 : decide (x < 1099511627776) = true := by simpa [Never] using hn
        have HN : Hid (profF g v u k = some x) := Lib.hid (by rw [HF.out, if_pos hn])
        clear hn
        go_wp2_with fail
        refine (imapPut_any Ao co m ⟨k, k + 1, x⟩ _ hO).mono ?_
        rintro e w3 ⟨er, o, A2, c2, HP, rfl, hI2, hb3⟩
        have HT := Lib.hid (of_step HR.out.2 HM.out.1 HM.out.2 HN.out HP.out)
        go_wp2_with fail
        go_roundw
        case rel => exact ⟨k + 1, A2, c2, o, by omega, by go_num, rfl, Lib.hid HT.out.2, hI2, ext_trans hb hb3⟩
        case measure => simp [intOf]; omega
end Go.Proofs.Ytcfachfldanddaa
/- The walk of early.Departures. -/
namespace Go.Proofs.Ytcfachfldanddaa
open Go.RowKit

def DepOut (g : GraphD) (v t : Int) (l : List Int) : Prop := if placeErr g v t = 0 then LateL g v t l else l = []
theorem LateL.low {g : GraphD} {v t : Int} {l : List Int} (h : LateL g v t l) (ht : 0 ≤ t) (i : Nat) : -1 ≤ gi l i := by
  have h1 : - gi l i ≤ - gi (startL g v t) i := h.2.1.1 i
  have h2 := startL_low (g := g) (v := v) ht i
  omega
theorem LateL.high {g : GraphD} {v t : Int} {l : List Int} (hV : Valid g) (h : LateL g v t l) (ht : t ≤ 100) (i : Nat) : gi l i ≤ 100 := late_high hV ht h.2.2 i
theorem fill_minus {n : Nat} {l : List Int} (hl : l.length = n) (h : ∀ i, i < n → gi l i = -1) : l = List.replicate n (-1) :=
  gi_eq_of (by simp [hl]) fun i hi => by rw [h i (by omega)]; exact (gi_of (by simp [hl ▸ hi])).symm

end Go.Proofs.Ytcfachfldanddaa
/- Lists of numbers that are told, with an error; two lists that are the same. -/
namespace Go.Proofs.Ytcfachfldanddaa
open Go.RowKit

/-- A list of numbers that is as it should be, and no error. -/
def IntsGood (P : List Int → Prop) (w : World) (e : Ending) (w' : World) : Prop := ∃ l A c, Hid (P l) ∧ e = .returned (.tuple #[.slice A l.length c, .int .i64 0]) ∧ SlAt RInt 1 w' A l ∧ l.length ≤ maxLen ∧ Below w.heap.size w w'
def IntsBad (er : Int) (w : World) (e : Ending) (w' : World) : Prop := ∃ A c, e = .returned (.tuple #[.slice A 0 c, .int .i64 er]) ∧ Below w.heap.size w w'
section
variable {P Q : List Int → Prop} {er : Int} {w w' : World} {e : Ending}
theorem ints_good (h : IntsOut P er w e w') (h0 : er = 0) (hpq : ∀ l, P l → Q l) : IntsGood Q w e w' := by
  subst h0
  obtain ⟨l, A, c, hl, he, h1, h2, h3⟩ := h
  exact ⟨l, A, c, Lib.hid (hpq l hl), he, h1, h2, h3⟩
theorem ints_bad (h : IntsOut P er w e w') (hpq : ∀ l, P l → l = []) : IntsBad er w e w' := by
  obtain ⟨l, A, c, hl, he, h1, h2, h3⟩ := h
  obtain rfl := hpq l hl
  exact ⟨A, c, he, h3⟩
end
theorem equalNil_any (A B : Option Addr) (c d : Nat) (w : World) : Calls Try.prog 129 #[.slice A 0 c, .slice B 0 d] w fun e w' => e = .returned (.bool true) ∧ Below w.heap.size w w' :=
  (equalInts_anyA A B c d [] [] w SlAt.nil SlAt.nil (by simp) (by simp)).mono fun e w' ⟨h1, h2⟩ => ⟨by rw [h1]; simp, h2⟩
theorem equalSame_any (A B : Option Addr) (c d : Nat) (l : List Int) (n m : Nat) (w : World) (hA : SlAt RInt 1 w A l) (hB : SlAt RInt 1 w B l) (hl : l.length ≤ maxLen) (hn : l.length = n) (hm : l.length = m) :
    Calls Try.prog 129 #[.slice A n c, .slice B m d] w fun e w' => e = .returned (.bool true) ∧ Below w.heap.size w w' := by
  subst hn; subst hm
  exact (equalInts_anyA A B c d l l w hA hB hl hl).mono fun e w' ⟨h1, h2⟩ => ⟨by rw [h1]; simp, h2⟩

theorem SlAt.cells {w : World} {A : Option Addr} {l : List Int} (h : SlAt RInt 1 w A l) (h0 : 0 < l.length) : ∃ b off, A = some ⟨b, off, none⟩ ∧ b < w.heap.size ∧ ∀ i, i < l.length → w.cell? ⟨b, off + i, none⟩ = some (.int .i64 (gi l i)) := by
  obtain ⟨b, off, h⟩ := h
  obtain ⟨rfl, hb, _⟩ := h 0 _ (gi_get h0)
  refine ⟨b, off, rfl, hb, fun i hi => ?_⟩
  obtain ⟨_, _, h2, _⟩ := h i _ (gi_get hi)
  simpa [cellIs] using h2
end Go.Proofs.Ytcfachfldanddaa
/- The walk of timekeep.early0: the times of the pair are as they should be. -/
namespace Go.Proofs.Ytcfachfldanddaa
open Go.RowKit

section
variable {g : GraphD} {v t : Int} {l : List Int}
theorem arr_good (h : placeErr g v t = 0) : ArrOut g v t l → EarlyL g v t l := fun hl => by unfold ArrOut at hl; rwa [if_pos h] at hl
theorem arr_bad (h : ¬ placeErr g v t = 0) : ArrOut g v t l → l = [] := fun hl => by unfold ArrOut at hl; rwa [if_neg h] at hl
theorem dep_good (h : placeErr g v t = 0) : DepOut g v t l → LateL g v t l := fun hl => by unfold DepOut at hl; rwa [if_pos h] at hl
theorem dep_bad (h : ¬ placeErr g v t = 0) : DepOut g v t l → l = [] := fun hl => by unfold DepOut at hl; rwa [if_neg h] at hl
theorem place_ok (hV : Valid g) (h0 : 0 ≤ v) (h1 : v < g.lives.length) (h2 : 0 ≤ t) (h3 : t < g.h) : placeErr g v t = 0 := by
  unfold placeErr
  rw [if_pos (valid_ok hV), if_pos (inB_iff.2 (by omega)), if_pos (inB_iff.2 (by omega))]
end
theorem pair_place0 : placeErr pairG 0 0 = 0 := by decide
theorem pair_place1 : placeErr pairG 1 5 = 0 := by decide
theorem ints2_at {w : World} {g : Nat} {a b : Int} (h : Blk w g 3 #[.int .i64 a, .int .i64 b]) (ha : I64 a) (hb : I64 b) : SlAt RInt 1 w (some ⟨g, 0, none⟩) [a, b] :=
  IRow.slAt (l := [a, b]) h fun k hk => by
    match k, hk with
    | 0, _ => exact ha
    | 1, _ => exact hb
    | k + 2, hk => exact absurd hk (by simp)

end Go.Proofs.Ytcfachfldanddaa
/- The law ProfileRises. -/
namespace Go.Proofs.Ytcfachfldanddaa
open Go.RowKit Go.Shelf

set_option maxRecDepth 100000 in
set_option maxHeartbeats 8000000 in
theorem profileRises_calls (A A' : Option Addr) (c c' : Nat) (g : GraphD) {w : World} (hG : GraphAt w A c A' c' g) (v : Int) (_ : I64 v) (u : Int) (_ : I64 u) (t : Int) (_ : I64 t) :
    Calls Try.prog 13 #[gV A c A' c' g, .int .i64 v, .int .i64 u, .int .i64 t] w fun e w' => e = .returned (.bool true) ∧ Below w.heap.size w w' := by
  have m1 : g.lives.length ≤ 9223372036854775807 := Nat.le_trans hG.lc hG.cm
  have HG := Lib.hid hG
  clear hG
  go_enter Try.func13, Try.ntmps13
  go_wp2_with fail
  refine (pair_any _).mono ?_
  rintro e w1 ⟨Ap, cp, Ap', cp', rfl, hGp, hb1⟩
  have B0 := (Blk.new w 78 (gC A c A' c' g)).ext hb1
  have hb1 : Below w.heap.size w w1 := ext_trans (by go_grown) hb1
  go_wp2_with fail
  refine (profOf_any Ap Ap' cp cp' pairG 0 1 _ hGp).mono ?_
  rintro e w2 ⟨e0, mp, Am, cm, HP, rfl, hIm, hb2⟩
  obtain ⟨rfl, rfl⟩ := of_pair HP.out
  have B0 := B0.ext hb2
  have hb2 := ext_trans hb1 hb2
  have HIM := Lib.hid hIm
  clear hb1 hGp hIm HP
  go_wp2_with fail
  have hb3 := ext_alloc (Below.refl _ w2) (Obj.cells #[.int .i64 0, .int .i64 2, .int .i64 4, .int .i64 2, .int .i64 3, .int .i64 5, .int .i64 3, .int .i64 4, .int .i64 6] 42)
  refine (equalPieces_any Am (some ⟨w2.heap.size, 0, none⟩) cm 3 [⟨0, 2, 4⟩, ⟨2, 3, 5⟩, ⟨3, 4, 6⟩] [⟨0, 2, 4⟩, ⟨2, 3, 5⟩, ⟨3, 4, 6⟩] _ (HIM.out.ext hb3).sl (pieces_lit (l := [⟨0, 2, 4⟩, ⟨2, 3, 5⟩, ⟨3, 4, 6⟩]) (Blk.new w2 42 _) (by simp [I64]) (by decide)).sl (by decide) (by decide)).mono ?_
  rintro e w3 ⟨rfl, hb4⟩
  rw [decide_eq_true rfl]
  have B0 := (B0.ext hb3).ext hb4
  have hb4 := ext_trans (ext_trans hb2 hb3) hb4
  obtain ⟨c1, c2, c3⟩ := B0.facts
  clear hb2 hb3 HIM
  go_wp2_with fail
  refine (profOf_any A A' c c' g v u _ (HG.out.ext hb4)).mono ?_
  rintro e w4 ⟨er, m, A2, c2', HO, rfl, hI, hb5⟩
  have B0 := B0.ext hb5
  have hb5 := ext_trans hb4 hb5
  clear hb4 c1 c2 c3
  by_cases h0 : er = 0
  case neg =>
    have hd : (er != 0) = true := by simpa using h0
    obtain rfl : m = [] := HO.out.none h0
    clear h0
    go_wp2_with fail
    go_ret
    exact ⟨rfl, hb5⟩
  case pos =>
  subst h0
  have HI := Lib.hid hI
  have m2 := hI.len
  clear hI
  go_wp2_with fail
  go_loopw [13, 49] (fun a x wr => ∃ k : Nat, k ≤ m.length ∧ x = .int .i64 k ∧ a = .int .i64 (lastV m k) ∧ Below w4.heap.size w4 wr) (fun _ x _ => m.length - (intOf x).toNat)
  case atStart => exact ⟨0, Nat.zero_le _, rfl, rfl, Below.refl _ _⟩
  case round =>
    obtain ⟨k, hk, rfl, rfl, hb⟩ := hrel
    have hbr := ext_trans hb5 hb
    by_cases hlt : k < m.length
    case pos =>
      obtain ⟨x, hx⟩ := get_lt hlt
      obtain ⟨b, off, rfl, hb0, x0, x1, x2⟩ := HI.out.get hx
      rw [← hb.cell (by exact hb0)] at x0 x1 x2
      have hp := HO.out.piece (List.mem_of_getElem? hx)
      have ha := HO.out.above hx
      obtain ⟨lv, hlv⟩ : ∃ lv, lastV m k = lv := ⟨_, rfl⟩
      rw [hlv] at ha ⊢
      have HS := Lib.hid (lastV_succ hx)
      have hw1 : IntKind.i64.wrap (x.t - 1) = x.t - 1 := IntWalk.i64_in _ (by omega)
      have hd1 : decide (x.v < lv) = false := by simpa using ha
      have hd2 : decide (x.v < x.t - 1) = false := by simp; omega
      clear hx hlv ha hp
      go_wp2_with fail
      go_roundw
      case rel => exact ⟨k + 1, by omega, by go_num, by rw [HS.out], ext_alloc hb _⟩
      case measure => simp [intOf]; omega
    case neg =>
      obtain rfl : k = m.length := by omega
      have B0 := B0.ext hb
      obtain ⟨c1, c2, c3⟩ := B0.facts
      have HG2 := Lib.hid (HO.out.good rfl)
      have HI2 := Lib.hid (HI.out.ext hb)
      obtain ⟨lv, hlv⟩ : ∃ lv, lastV m m.length = lv := ⟨_, rfl⟩
      rw [hlv]
      clear hlv hb hb5
      go_wp2_with fail
      refine (arrivals_any A A' c c' g v t _ (HG.out.ext hbr)).mono ?_
      rintro e w5 ⟨l, A1, d1, hl1, rfl, hA1, hm1, hb6⟩
      have hb6' := ext_trans hbr hb6
      have HL := Lib.hid hl1
      clear hl1 hbr c1 c2 c3
      go_wp2_with fail
      refine (imapAt_any A2 c2' m t _ (HI2.out.ext hb6)).mono ?_
      rintro e w6 ⟨rfl, hb7⟩
      have hb7' := ext_trans hb6' hb7
      have hA1 := hA1.ext RInt.stable hb7
      unfold atV
      go_wp2_with fail
      refine (imapCheck_any A2 c2' m _ ((HI2.out.ext hb6).ext hb7)).mono ?_
      rw [HG2.out.2.2.2.2]
      rintro e w7 ⟨rfl, hb8⟩
      have hb8' := ext_trans hb7' hb8
      have hA1 := hA1.ext RInt.stable hb8
      clear hb6' hb7' hb6 hb7 hb8
      rw [HG2.out.2.2.2.1]
      by_cases hp : placeErr g v t = 0
      case neg =>
        have hd : (placeErr g v t != 0) = true := by simpa using hp
        obtain ⟨a1, ha1⟩ : ∃ a1, (profF g v u t).getD 0 = a1 := ⟨_, rfl⟩
        obtain ⟨a2, ha2⟩ : ∃ a2, (profF g v u t).isSome = a2 := ⟨_, rfl⟩
        rw [ha1, ha2]
        clear hp ha1 ha2
        go_wp2_with fail
        go_ret
        exact ⟨rfl, hb8'⟩
      case pos =>
        have hE : EarlyL g v t l := arr_good hp HL.out
        have hu0 := HG2.out.2.1.1
        have hu1 := HG2.out.2.1.2
        have hlen := hE.1
        obtain ⟨x, hx⟩ := get_lt (show u.toNat < l.length by omega)
        obtain ⟨b, off, hSl⟩ := hA1
        obtain ⟨rfl, hbl, hcx, hx64⟩ := hSl u.toNat x hx
        have hcx : w7.cell? ⟨b, off + u.toNat, none⟩ = some (.int .i64 x) := by have h : cellIs w7 b (off + u.toNat * 1) (.int .i64 x) := hcx; rwa [Nat.mul_one] at h
        have hF : profF g v u t = if x < Never then some x else none := by have := profF_of (u := u) hp hE; rwa [gi_of hx] at this
        have hjl2 : u < (l.length : Int) := by omega
        rw [hp, hF]
        clear hSl hx hlen hE hp hF
        by_cases hn : x < Never
        · have hd5 : decide (x < 1099511627776) = true := by simpa [Never] using hn
          rw [if_pos hn]
          clear hn
          simp only [Option.getD_some, Option.isSome_some]
          go_wp2_with fail
          go_ret
          exact ⟨by simp, hb8'⟩
        · have hd5 : decide (x < 1099511627776) = false := by simpa [Never] using hn
          rw [if_neg hn]
          clear hn
          simp only [Option.getD_none, Option.isSome_none]
          go_wp2_with fail
          go_ret
          exact ⟨by simp, hb8'⟩
end Go.Proofs.Ytcfachfldanddaa
