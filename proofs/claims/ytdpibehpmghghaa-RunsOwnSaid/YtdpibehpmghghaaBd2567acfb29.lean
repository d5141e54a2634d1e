/- One text: BspMore. -/
import Derived.Test.YtdpibehpmghghaaBd16e071d026
/- The walk of (*bsp.engine).more. -/
namespace Go.Proofs.Ytdpibehpmghghaa
open Go.RowKit

abbrev legVal (l : LegD) : Value := .agg #[.int .i64 l.f, .int .i64 l.t, .int .i64 l.time, .int .i64 l.cost]
set_option maxHeartbeats 1000000 in
theorem more_any (e : Nat) (cs : Array Value) (p : Int) (l : LegD) (w : World) (hE : Blk w e 102 cs) (hp : cs[3]? = some (.int .i64 p)) :
    Calls Try.prog 76 #[.pointer (some ⟨e, 0, none⟩), legVal l] w fun en w' => en = .returned (.int .i64 (moreL p l)) ∧ Below w.heap.size w w' := by
  have hlt := hE.lt
  have hcell : w.cell? ⟨e, 3, none⟩ = some (.int .i64 p) := (hE.cell 3).trans hp
  by_cases h1 : p = 1
  · have H1 : Hid (moreL p l = 1) := Lib.hid (by unfold moreL; rw [if_pos h1])
    subst h1
    go_enter Try.func76, Try.ntmps76
    go_wp2_with fail
    go_ret
    exact ⟨ret_int H1.out.symm, by go_grown⟩
  · by_cases h2 : p = 2
    · have H1 : Hid (moreL p l = l.cost) := Lib.hid (by unfold moreL; rw [if_neg h1, if_pos h2])
      subst h2
      go_enter Try.func76, Try.ntmps76
      go_wp2_with fail
      go_ret
      exact ⟨ret_int H1.out.symm, by go_grown⟩
    · have H1 : Hid (moreL p l = 0) := Lib.hid (by unfold moreL; rw [if_neg h1, if_neg h2])
      go_enter Try.func76, Try.ntmps76
      go_wp2_with fail
      go_ret
      exact ⟨ret_int H1.out.symm, by go_grown⟩
end Go.Proofs.Ytdpibehpmghghaa
