/- The walk of the document's Plain: what a program tells of a right snapshot. -/
import Derived.Test.YtcgnalpcbcpmkaaRounds
import Derived.Test.YtcgnalpcbcpmkaaHops
import Derived.Test.YtcgnalpcbcpmkaaLabels
namespace Go.Proofs.Ytcgnalpcbcpmkaa
open Go.RowKit

set_option maxRecDepth 100000 in
set_option maxHeartbeats 4000000 in
theorem plain_any (A A' : Option Addr) (c c' : Nat) (s : SnapD) (p v : Int) (w : World) (hS : SnapAt w A c A' c' s) (hok : SnapOk s) (hp1 : 1 ≤ p) (hp3 : p ≤ 3) :
    Calls Try.prog 44 #[snapV A c A' c' s, .int .i64 p, .int .i64 v] w (RoundsOut s p (p == 3) v w) := by
  have hn12 := hok.nv
  go_enter Try.func44, Try.ntmps44
  go_wp2_with fail
  have B0 := (Blk.new w 51 (snapC A c A' c' s)).alloc (Obj.cells #[.int .i64 p] 3)
  have B1 : Blk ((w.alloc (Obj.cells (snapC A c A' c' s) 51)).alloc (Obj.cells #[.int .i64 p] 3)) (w.heap.size + 1) 3 #[.int .i64 p] := Blk.new_ (by simp)
  have hbw : Below w.heap.size w ((w.alloc (Obj.cells (snapC A c A' c' s) 51)).alloc (Obj.cells #[.int .i64 p] 3)) := by go_grown
  obtain ⟨wq, hwq⟩ : ∃ wq : World, wq = (w.alloc (Obj.cells (snapC A c A' c' s) 51)).alloc (Obj.cells #[.int .i64 p] 3) := ⟨_, rfl⟩
  rw [← hwq] at B0 B1 hbw ⊢
  clear hwq
  obtain ⟨b1, b2, b3⟩ := B0.facts
  have S0 : wq.cell? ⟨w.heap.size, 0, none⟩ = some (.slice A s.alive.length c) ∧ wq.cell? ⟨w.heap.size, 1, none⟩ = some (.slice A' s.arcs.length c') ∧ wq.cell? ⟨w.heap.size + 1, 0, none⟩ = some (.int .i64 p) := ⟨by rw [B0.cell]; rfl, by rw [B0.cell]; rfl, by rw [B1.cell]; rfl⟩
  clear b1 b2 b3
  go_region_held3 (fun w' => w'.cell? ⟨w.heap.size, 0, none⟩ = some (.slice A s.alive.length c) ∧ w'.cell? ⟨w.heap.size, 1, none⟩ = some (.slice A' s.arcs.length c') ∧ w'.cell? ⟨w.heap.size + 1, 0, none⟩ = some (.int .i64 p))
    (first | exact S0 | exact keep3 hb6 S0 | exact keep3 hb8 S0)
    (first | (go_at_call 98; refine (begun_any A A' c c' s p v _ (hS.ext (by go_grown)) hn12).mono ?_; rintro e w5 ⟨A2, c2, rfl, hI, hb5⟩; have hb6 : Below wq.heap.size wq w5 := ext_trans (by go_grown) hb5) | (go_at_call 97; refine (rounds_any A A' A2 c c' c2 s p v (p == 3) (w.heap.size + 1) _ (hS.ext (ext_trans hbw hb6)) hok hp1 hp3 (B1.ext hb6) hI).mono ?_; rintro e w7 ⟨l, A3, c3, kk, rfl, hl, hI3, hm3, hb7⟩; have hb8 : Below wq.heap.size wq w7 := ext_trans hb6 hb7; have HL := Lib.hid hl; clear hl))
  all_goals (try go_wp2_with fail)
  all_goals go_ret2
  all_goals exact ⟨l, A3, c3, kk, rfl, HL.out, hI3, hm3, ext_trans hbw hb8⟩
theorem wtP_one : wtP 1 = wOne := by funext a; simp [wtP, wOne]
theorem wtP_two : wtP 2 = wCost := by funext a; simp [wtP, wCost]
theorem wtP_three : wtP 3 = wZero := by funext a; simp [wtP, wZero]
/-- The three programs: hops, costs, labels. -/
def PlainOut (P : List Int → Prop) (w : World) (e : Ending) (w' : World) : Prop := ∃ l A c k, P l ∧ e = .returned (.tuple #[.slice A l.length c, .int .i64 k]) ∧ SlAt RInt 1 w' A l ∧ l.length ≤ maxLen ∧ Below w.heap.size w w'
theorem plainHops_any (A A' : Option Addr) (c c' : Nat) (s : SnapD) (v : Int) (w : World) (hS : SnapAt w A c A' c' s) (hok : SnapOk s) :
    Calls Try.prog 44 #[snapV A c A' c' s, .int .i64 1, .int .i64 v] w (PlainOut (WaysL s wOne v) w) :=
  (plain_any A A' c c' s 1 v w hS hok (by decide) (by decide)).mono fun e w' ⟨l, A2, c2, k, he, hl, h1, h2, h3⟩ =>
    ⟨l, A2, c2, k, ⟨hl.1, by have := hl.2; rw [wtP_one, begun_ways s (by decide)] at this; exact this⟩, he, h1, h2, h3⟩
theorem plainCosts_any (A A' : Option Addr) (c c' : Nat) (s : SnapD) (v : Int) (w : World) (hS : SnapAt w A c A' c' s) (hok : SnapOk s) :
    Calls Try.prog 44 #[snapV A c A' c' s, .int .i64 2, .int .i64 v] w (PlainOut (WaysL s wCost v) w) :=
  (plain_any A A' c c' s 2 v w hS hok (by decide) (by decide)).mono fun e w' ⟨l, A2, c2, k, he, hl, h1, h2, h3⟩ =>
    ⟨l, A2, c2, k, ⟨hl.1, by have := hl.2; rw [wtP_two, begun_ways s (by decide)] at this; exact this⟩, he, h1, h2, h3⟩
theorem plainLabels_any (A A' : Option Addr) (c c' : Nat) (s : SnapD) (v : Int) (w : World) (hS : SnapAt w A c A' c' s) (hok : SnapOk s) :
    Calls Try.prog 44 #[snapV A c A' c' s, .int .i64 3, .int .i64 v] w (PlainOut (LabelsL s) w) :=
  (plain_any A A' c c' s 3 v w hS hok (by decide) (by decide)).mono fun e w' ⟨l, A2, c2, k, he, hl, h1, h2, h3⟩ =>
    ⟨l, A2, c2, k, ⟨hl.1, by have := hl.2; rw [wtP_three, begun_3] at this; exact this⟩, he, h1, h2, h3⟩
end Go.Proofs.Ytcgnalpcbcpmkaa
