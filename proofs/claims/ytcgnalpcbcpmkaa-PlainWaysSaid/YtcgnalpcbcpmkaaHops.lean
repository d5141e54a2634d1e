/- The walks of plain.Hops and plain.Costs. -/
import Derived.Test.YtcgnalpcbcpmkaaSpread
namespace Go.Proofs.Ytcgnalpcbcpmkaa
open Go.RowKit

theorem hopsClo_any (a : ArcD) (w : World) : Calls Try.prog 101 #[arcV a] w fun e w' => e = .returned (.int .i64 (wOne a)) ∧ Below w.heap.size w w' := by
  go_enter Try.func101, Try.ntmps101
  go_wp2_with fail
  go_ret
  exact ⟨rfl, by go_grown⟩
theorem costsClo_any (a : ArcD) (w : World) : Calls Try.prog 102 #[arcV a] w fun e w' => e = .returned (.int .i64 (wCost a)) ∧ Below w.heap.size w w' := by
  go_enter Try.func102, Try.ntmps102
  go_wp2_with fail
  go_ret
  exact ⟨rfl, by go_grown⟩
theorem enters_hops : Enters Try.prog 101 := enters_of Try.func101 (by kernel_rfl) rfl
theorem enters_costs : Enters Try.prog 102 := enters_of Try.func102 (by kernel_rfl) rfl
theorem hops_any (A A' : Option Addr) (c c' : Nat) (s : SnapD) (v : Int) (w : World) (hS : SnapAt w A c A' c' s) :
    Calls Try.prog 47 #[snapV A c A' c' s, .int .i64 v] w (IntsOut (WaysOut s wOne v) (waysErr s v) w) := by
  go_enter Try.func47, Try.ntmps47
  go_wp2_with fail
  refine (spread_any 101 wOne A A' c c' s v _ enters_hops (hS.ext (by go_grown)) (fun _ a _ => by simp [wOne]) (fun a w _ => hopsClo_any a w)).mono ?_
  rintro e w1 ⟨l, A1, c1, hW, rfl, hS1, hm1, hb1⟩
  go_wp2_with fail
  go_ret2
  exact ⟨l, A1, c1, hW, rfl, hS1, hm1, ext_trans (by go_grown) hb1⟩
theorem costs_any (A A' : Option Addr) (c c' : Nat) (s : SnapD) (v : Int) (w : World) (hS : SnapAt w A c A' c' s) :
    Calls Try.prog 48 #[snapV A c A' c' s, .int .i64 v] w (IntsOut (WaysOut s wCost v) (waysErr s v) w) := by
  go_enter Try.func48, Try.ntmps48
  go_wp2_with fail
  refine (spread_any 102 wCost A A' c c' s v _ enters_costs (hS.ext (by go_grown)) (fun h a ha => ⟨((snapOk_of h).arcs a ha).c0, ((snapOk_of h).arcs a ha).c1⟩) (fun a w _ => costsClo_any a w)).mono ?_
  rintro e w1 ⟨l, A1, c1, hW, rfl, hS1, hm1, hb1⟩
  go_wp2_with fail
  go_ret2
  exact ⟨l, A1, c1, hW, rfl, hS1, hm1, ext_trans (by go_grown) hb1⟩
end Go.Proofs.Ytcgnalpcbcpmkaa
