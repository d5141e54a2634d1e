/- The walks of what vertices are told at first, and of what an arc adds, by program. -/
import Derived.Test.YtcgnalpcbcpmkaaRoundsSpec
import Derived.Test.YtcgnalpcbcpmkaaShot
import Derived.Test.YtcgnalpcbcpmkaaCopy
import Derived.Outline
namespace Go.Proofs.Ytcgnalpcbcpmkaa
open Go.RowKit


theorem range_snoc {α : Type} (f : Nat → α) (k : Nat) : (List.range (k + 1)).map f = (List.range k).map f ++ [f k] := by rw [List.range_succ, List.map_append]; rfl
theorem int_one {a : Int} : ∀ u ∈ (#[.int .i64 a] : Array Value).toList, u.oneCell' = true := by simp [Value.oneCell']
def begunF (s : SnapD) (p v : Int) (k : Nat) : Int := if s.alive[k]? = some true ∧ p = 3 then (k : Int) else if s.alive[k]? = some true ∧ (k : Int) = v then 0 else Far
theorem begunF_is (s : SnapD) (p v : Int) : begunD s p v = (List.range s.alive.length).map (begunF s p v) := rfl

set_option maxRecDepth 100000 in
set_option maxHeartbeats 2000000 in
theorem begun_any (A A' : Option Addr) (c c' : Nat) (s : SnapD) (p v : Int) (w : World) (hS : SnapAt w A c A' c' s) (hn : s.alive.length ≤ 12) :
    Calls Try.prog 98 #[snapV A c A' c' s, .int .i64 p, .int .i64 v] w fun e w' => ∃ A2 c2, e = .returned (.slice A2 (begunD s p v).length c2) ∧ SlAt RInt 1 w' A2 (begunD s p v) ∧ Below w.heap.size w w' := by
  obtain ⟨i0, hi, hz0, hz1, hz2⟩ := info_int2
  obtain ⟨b, off, hL⟩ := hS.alive
  go_enter Try.func98, Try.ntmps98
  go_wp2_with fail
  go_loopw [7, 8] (fun o x wr => ∃ k : Nat, k ≤ s.alive.length ∧ x = .int .i64 k ∧ Own intEnc 1 wr (w.heap.size + 1) 3 o ((List.range k).map (begunF s p v)) ∧ Below (w.heap.size + 1) (w.alloc (.cells (snapC A c A' c' s) 51)) wr)
    (fun _ x _ => s.alive.length - (intOf x).toNat)
  case atStart => exact ⟨0, Nat.zero_le _, rfl, Own.nil, by simpa using Below.refl _ _⟩
  case round =>
    obtain ⟨k, hk, rfl, hown, hb⟩ := hrel
    have hbw : Below w.heap.size w wr := (Below.refl _ _).alloc (Nat.le_refl _) _ |>.trans (hb.mono (by omega))
    have B0 := (Blk.new w 51 (snapC A c A' c' s)).below hb (by omega)
    obtain ⟨b1, b2, b3⟩ := B0.facts
    have hzw : w.heap.size + 1 ≤ wr.heap.size := by have := hb.size; simpa using this
    by_cases hlt : k < s.alive.length
    case neg =>
      obtain rfl : k = s.alive.length := by omega
      rw [← begunF_is] at hown
      obtain ⟨A2, c2, rfl, hI⟩ := hown.iown
      go_wp2_with fail
      go_ret
      exact ⟨A2, c2, rfl, hI.slAt (fun k _ => by have h1 := begun_big s hn p v k; have h2 := begun_pos s p v k; simp only [Far] at h1; exact ⟨by omega, by omega⟩), hbw⟩
    obtain ⟨y, hy⟩ := get_lt hlt
    obtain ⟨rfl, hb0, x0⟩ := hL k y hy
    unfold RBool at x0
    have y0 := x0.now hbw
    simp only [Nat.mul_one] at y0
    have hbz : b < wr.heap.size := Nat.lt_of_lt_of_le hb0 hbw.size
    have HY := Lib.hid hy
    have hlen : ((List.range k).map (begunF s p v)).length ≤ 12 := by simp; omega
    clear hL hy x0
    cases y
    case false =>
      have HF : Hid (begunF s p v k = 1099511627776) := Lib.hid (by simp [begunF, HY.out, Far])
      go_wp2_with (at_builtin; refine wpList_append_el (enc := intEnc) rfl (.tmp 37) (.tmp 39) 53 rfl (w.heap.size + 1) 3 i0 _ 1 8 Try.underlying53 hi hz0 hz1 hz2 rfl (by decide) _ _ 1099511627776 rfl hown _ rfl _ rfl rfl rfl int_one (by omega) (by decide) (by omega) ?_; intro v' w6 hown6 hb6)
      go_roundw
      case rel => exact ⟨k + 1, by omega, by go_num, by rw [range_snoc, HF.out]; exact hown6, hb.trans hb6⟩
      case measure => simp [intOf]; omega
    by_cases hp : p = 3
    · have HF : Hid (begunF s p v k = k) := Lib.hid (by simp [begunF, HY.out, hp])
      have hpe : (p == 3) = true := by simp [hp]
      clear hp
      go_wp2_with (at_builtin; refine wpList_append_el (enc := intEnc) rfl (.tmp 37) (.tmp 39) 53 rfl (w.heap.size + 1) 3 i0 _ 1 8 Try.underlying53 hi hz0 hz1 hz2 rfl (by decide) _ _ k rfl hown _ rfl _ rfl rfl rfl int_one (by omega) (by decide) (by omega) ?_; intro v' w6 hown6 hb6)
      go_roundw
      case rel => exact ⟨k + 1, by omega, by go_num, by rw [range_snoc, HF.out]; exact hown6, hb.trans hb6⟩
      case measure => simp [intOf]; omega
    have hpe : (p == 3) = false := by simp [hp]
    by_cases hv : (k : Int) = v
    · have HF : Hid (begunF s p v k = 0) := Lib.hid (by simp [begunF, HY.out, hp, hv])
      have hve : ((k : Int) == v) = true := by simp [hv]
      clear hp hv
      go_wp2_with (at_builtin; refine wpList_append_el (enc := intEnc) rfl (.tmp 37) (.tmp 39) 53 rfl (w.heap.size + 1) 3 i0 _ 1 8 Try.underlying53 hi hz0 hz1 hz2 rfl (by decide) _ _ 0 rfl hown _ rfl _ rfl rfl rfl int_one (by omega) (by decide) (by omega) ?_; intro v' w6 hown6 hb6)
      go_roundw
      case rel => exact ⟨k + 1, by omega, by go_num, by rw [range_snoc, HF.out]; exact hown6, hb.trans hb6⟩
      case measure => simp [intOf]; omega
    · have HF : Hid (begunF s p v k = 1099511627776) := Lib.hid (by simp [begunF, HY.out, hp, hv, Far])
      have hve : ((k : Int) == v) = false := by simp [hv]
      clear hp hv
      go_wp2_with (at_builtin; refine wpList_append_el (enc := intEnc) rfl (.tmp 37) (.tmp 39) 53 rfl (w.heap.size + 1) 3 i0 _ 1 8 Try.underlying53 hi hz0 hz1 hz2 rfl (by decide) _ _ 1099511627776 rfl hown _ rfl _ rfl rfl rfl int_one (by omega) (by decide) (by omega) ?_; intro v' w6 hown6 hb6)
      go_roundw
      case rel => exact ⟨k + 1, by omega, by go_num, by rw [range_snoc, HF.out]; exact hown6, hb.trans hb6⟩
      case measure => simp [intOf]; omega

set_option maxHeartbeats 1000000 in
theorem moreClo_any (a : ArcD) (p : Int) (bp : Nat) (w : World) (hp : Blk w bp 3 #[.int .i64 p]) (h1 : 1 ≤ p) (h3 : p ≤ 3) :
    Calls Try.prog 99 #[arcV a, .pointer (some ⟨bp, 0, none⟩)] w fun e w' => e = .returned (.int .i64 (wtP p a)) ∧ Below w.heap.size w w' := by
  obtain ⟨q1, q2, q3⟩ := hp.facts
  have q10 := q1 0
  simp only [List.getElem?_toArray, List.getElem?_cons_zero] at q10
  rcases (show p = 1 ∨ p = 2 ∨ p = 3 by omega) with rfl | rfl | rfl
  all_goals
    go_enter Try.func99, Try.ntmps99
    go_wp2_with fail
    go_ret
    exact ⟨ret_int (by simp [wtP]), by go_grown⟩
end Go.Proofs.Ytcgnalpcbcpmkaa
