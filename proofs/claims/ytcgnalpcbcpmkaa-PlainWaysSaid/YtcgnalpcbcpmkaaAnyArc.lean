/- The walks of slices.ContainsFunc over arcs, of PlainWays' inner function, and of the row of three vertices. -/
import Derived.Test.YtcgnalpcbcpmkaaLawPlain
import Derived.Test.YtcgnalpcbcpmkaaPair
namespace Go.Proofs.Ytcgnalpcbcpmkaa
open Go.RowKit

/-- Is an arc the last one of a way that is told? -/
def byArc (v : Int) (costs : List Int) (x : Int) (a : ArcD) : Bool := decide (a.b = v ∧ gi costs a.a.toNat < 1099511627776 ∧ gi costs a.a.toNat + a.cost = x)

set_option maxRecDepth 100000 in
set_option maxHeartbeats 2000000 in
theorem byClo_any (y : ArcD) (v x : Int) (costs : List Int) (Ac : Option Addr) (n cc bv bc bx : Nat) (w : World) (hv : Blk w bv 3 #[.int .i64 v]) (hc : Blk w bc 53 #[.slice Ac n cc]) (hx : Blk w bx 3 #[.int .i64 x])
    (hL : SlAt RInt 1 w Ac costs) (hn : costs.length = n) (h0 : 0 ≤ y.a) (h1 : y.a.toNat < n) (hm : n ≤ 12) (hc0 : 0 ≤ y.cost ∧ y.cost ≤ 1000) (hp : ∀ i, 0 ≤ gi costs i) :
    Calls Try.prog 57 #[arcV y, .pointer (some ⟨bv, 0, none⟩), .pointer (some ⟨bc, 0, none⟩), .pointer (some ⟨bx, 0, none⟩)] w fun e w' => e = .returned (.bool (byArc v costs x y)) ∧ Below w.heap.size w w' := by
  have v0 := hv.cell 0
  have c0 := hc.cell 0
  have x0 := hx.cell 0
  simp only [List.getElem?_toArray, List.getElem?_cons_zero] at v0 c0 x0
  obtain ⟨bl, ol, hL⟩ := hL
  obtain ⟨rfl, hbl, z0, zi⟩ := hL y.a.toNat _ (gi_get (by omega))
  simp only [Nat.mul_one, cellIs] at z0
  have hpy := hp y.a.toNat
  obtain ⟨z, hz⟩ : ∃ z, gi costs y.a.toNat = z := ⟨_, rfl⟩
  have HR : byArc v costs x y = decide (y.b = v ∧ z < 1099511627776 ∧ z + y.cost = x) := by unfold byArc; rw [hz]
  rw [hz] at z0 zi hpy
  rw [HR]
  clear HR hz hL hp
  obtain ⟨hc1, hc2⟩ := hc0
  obtain ⟨zi0, zi1⟩ := zi
  have hi1 : y.a < (n : Int) := by omega
  have wv := hv.lt
  have wc := hc.lt
  have wx := hx.lt
  by_cases hb : y.b = v
  case neg =>
    have hbe : (y.b == v) = false := by simp [hb]
    have HE : Hid (decide (y.b = v ∧ z < 1099511627776 ∧ z + y.cost = x) = false) := Lib.hid (by simp [hb])
    clear hb
    go_enter Try.func57, Try.ntmps57
    go_wp2_with fail
    go_quiet (fail)
    go_wp2_with fail
    go_ret
    rw [HE.out]
    exact ⟨rfl, below_drewN (by go_grown) _⟩
  have hbe : (y.b == v) = true := by simp [hb]
  by_cases hl : z < 1099511627776
  case neg =>
    have HE : Hid (decide (y.b = v ∧ z < 1099511627776 ∧ z + y.cost = x) = false) := Lib.hid (by simp [hl])
    have hle : decide (z < 1099511627776) = false := by simpa using hl
    clear hb hl
    go_enter Try.func57, Try.ntmps57
    go_wp2_with fail
    go_quiet (fail)
    go_wp2_with fail
    go_ret
    rw [HE.out]
    exact ⟨rfl, below_drewN (by go_grown) _⟩
  have hwrap : IntKind.i64.wrap (z + y.cost) = z + y.cost := IntWalk.i64_in _ (by omega)
  have hle : decide (z < 1099511627776) = true := by simpa using hl
  obtain ⟨q, hq⟩ : ∃ q, (z + y.cost == x) = q := ⟨_, rfl⟩
  have HE : Hid (decide (y.b = v ∧ z < 1099511627776 ∧ z + y.cost = x) = q) := Lib.hid (by
    rw [← hq]
    simp only [hb, hl, true_and]
    by_cases e : z + y.cost = x <;> simp [e])
  clear hb
  go_enter Try.func57, Try.ntmps57
  go_wp2_with fail
  go_quiet (fail)
  go_wp2_with fail
  go_ret
  rw [HE.out]
  exact ⟨ret_bool (by first | rfl | exact hq), below_drewN (by go_grown) _⟩

set_option maxRecDepth 100000 in
set_option maxHeartbeats 2000000 in
theorem indexArcs_any (kf : Nat) (caps : Array Value) (p : ArcD → Bool) (A : Option Addr) (c n : Nat) (l : List ArcD) (w : World) (hent : Enters Try.prog kf) (hA : SlAt RArc 3 w A l) (hn : l.length = n) (hl : n ≤ 30)
    (hcall : ∀ a w', a ∈ l → Below w.heap.size w w' → Calls Try.prog kf (#[arcV a] ++ caps) w' fun e w'' => e = .returned (.bool (p a)) ∧ Below w'.heap.size w' w'') :
    Calls Try.prog 103 #[.slice A n c, .func (.func kf) #[] caps] w fun e w' => ∃ r : Int, e = .returned (.int .i64 r) ∧ decide (r ≥ 0) = l.any p ∧ Below w.heap.size w w' := by
  obtain ⟨bz, oz, hAr⟩ := hA
  have HC := Lib.hid hcall
  have HLN := Lib.hid hn
  clear hcall hn
  unfold Enters at hent
  go_enter Try.func103, Try.ntmps103
  go_wp2_with fail
  go_loopw [8] (fun x wr => ∃ k : Nat, k ≤ n ∧ x = .int .i64 k ∧ Hid ((l.drop k).any p = l.any p) ∧ Below w.heap.size w wr) (fun x _ => n - (intOf x).toNat)
  case atStart => exact ⟨0, Nat.zero_le _, rfl, Lib.hid (by simp), Below.refl _ _⟩
  case round =>
    obtain ⟨k, hk, rfl, HI, hb⟩ := hrel
    by_cases hlt : k < n
    case neg =>
      have HE : Hid (l.any p = false) := Lib.hid (by rw [← HI.out, List.drop_eq_nil_of_le (by rw [HLN.out]; omega)]; rfl)
      go_wp2_with fail
      go_ret
      exact ⟨-1, rfl, by rw [HE.out]; decide, hb⟩
    obtain ⟨y, hy⟩ := get_lt (l := l) (k := k) (by rw [HLN.out]; exact hlt)
    obtain ⟨rfl, hbz1, ⟨⟨x0, x1, x2⟩, _⟩⟩ := hAr k y hy
    have y0 := x0.now hb
    have y1 := x1.now hb
    have y2 := x2.now hb
    have HY := Lib.hid (List.mem_of_getElem? hy)
    have HD := Lib.hid (drop_cons hy)
    have HAR := Lib.hid hAr
    clear hy x0 x1 x2 hAr
    cases hpy : p y
    case true =>
      have HE : Hid (l.any p = true) := Lib.hid (by rw [← HI.out, HD.out]; simp [hpy])
      have HP := Lib.hid hpy
      clear hpy
      go_wp2_with fail
      refine (HC.out y _ HY.out hb).mono ?_
      rw [HP.out]
      rintro e w1 ⟨rfl, hb1⟩
      go_wp2_with fail
      go_ret
      exact ⟨k, rfl, by rw [HE.out]; simp, ext_trans hb hb1⟩
    case false =>
      have HN : Hid ((l.drop (k + 1)).any p = l.any p) := Lib.hid (by rw [← HI.out, HD.out]; simp [hpy])
      have HP := Lib.hid hpy
      clear hpy
      go_wp2_with fail
      refine (HC.out y _ HY.out hb).mono ?_
      rw [HP.out]
      rintro e w1 ⟨rfl, hb1⟩
      go_wp2_with fail
      go_roundw
      case rel => exact ⟨k + 1, by omega, by go_num, HN, ext_trans hb hb1⟩
      case measure => simp [intOf]; omega
theorem containsArcs_any (kf : Nat) (caps : Array Value) (p : ArcD → Bool) (A : Option Addr) (c n : Nat) (l : List ArcD) (w : World) (hent : Enters Try.prog kf) (hA : SlAt RArc 3 w A l) (hn : l.length = n) (hl : n ≤ 30)
    (hcall : ∀ a w', a ∈ l → Below w.heap.size w w' → Calls Try.prog kf (#[arcV a] ++ caps) w' fun e w'' => e = .returned (.bool (p a)) ∧ Below w'.heap.size w' w'') :
    Calls Try.prog 56 #[.slice A n c, .func (.func kf) #[] caps] w fun e w' => e = .returned (.bool (l.any p)) ∧ Below w.heap.size w w' := by
  have HC := Lib.hid hcall
  have HLN := Lib.hid hn
  clear hcall hn
  go_enter Try.func56, Try.ntmps56
  go_wp2_with fail
  refine (indexArcs_any kf caps p A c n l _ hent hA HLN.out hl HC.out).mono ?_
  rintro e w1 ⟨r, rfl, hr, hb1⟩
  go_wp2_with fail
  go_ret
  exact ⟨ret_bool (by first | rfl | exact hr), hb1⟩

set_option maxHeartbeats 1000000 in
theorem row_any (w : World) : Calls Try.prog 55 #[] w fun e w' => ∃ A c A' c', e = .returned (snapV A c A' c' rowD) ∧ SnapAt w' A c A' c' rowD ∧ Below w.heap.size w w' := by
  go_enter Try.func55, Try.ntmps55
  go_wp2
  refine bodyPost_ret (v := snapV (some ⟨w.heap.size + 1, 0, none⟩) 3 (some ⟨w.heap.size + 2, 0, none⟩) 2 rowD) (by simp [results, Try.results55, go_sem, rowD]) rfl ?_
  refine ⟨some ⟨w.heap.size + 1, 0, none⟩, 3, some ⟨w.heap.size + 2, 0, none⟩, 2, rfl, ⟨by simp [rowD], by simp [maxLen], by simp [rowD], by simp [maxLen], ?_, ?_⟩, by go_grown⟩
  · refine ⟨w.heap.size + 1, 0, fun i x hx => ?_⟩
    match i, hx with
    | 0, hx => simp [rowD] at hx; subst hx; exact ⟨rfl, by simp, by simp [RBool, cellIs, go_sem]⟩
    | 1, hx => simp [rowD] at hx; subst hx; exact ⟨rfl, by simp, by simp [RBool, cellIs, go_sem]⟩
    | 2, hx => simp [rowD] at hx; subst hx; exact ⟨rfl, by simp, by simp [RBool, cellIs, go_sem]⟩
    | i + 3, hx => simp [rowD] at hx
  · refine slAt2 (by simp) ?_ ?_ <;> simp [RArc, cellIs, I64, go_sem]
end Go.Proofs.Ytcgnalpcbcpmkaa
