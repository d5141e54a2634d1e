/- One text: LawGraphReads. -/
import Derived.Test.YtdpibehpmghghaaDoorBd556da6c60b
import Derived.Test.YtdpibehpmghghaaDoorBd39f6d3d90c
/- The walk of the law GraphReads. -/
namespace Go.Proofs.YtdpibehpmghghaaDoor
open Go.RowKit

set_option maxRecDepth 100000 in
set_option maxHeartbeats 2000000 in
theorem graphReads_calls (l : List UInt8) {w0 : World} (hl : l.length ≤ 9223372036854775807) (hm : MaxL w0) :
    Calls Tryd.prog 4 #[.string (bs l)] w0 fun e w' => e = .returned (.bool true) ∧ Below w0.heap.size w0 w' := by
  obtain ⟨⟨g, n, er⟩, hr⟩ : ∃ r, parseD l = r := ⟨_, rfl⟩
  have hp := parse_any l w0 hl hm
  have hq := fun W => refRead_any l W hl
  rw [hr] at hp
  simp only [hr] at hq
  have HP := Lib.hid hp; have HQ := Lib.hid hq
  clear hr hp hq hl hm
  go_enter Tryd.func4, Tryd.ntmps4
  go_wp2_with fail
  refine HP.out.mono ?_
  rintro e w1 ⟨A1, c1, A1', c1', rfl, hG1, hb1⟩
  go_wp2_with fail
  refine (HQ.out _).mono ?_
  rintro e w2 ⟨A2, c2, A2', c2', rfl, hG2, hb2⟩
  have hbb : Below w0.heap.size w0 w2 := ext_trans (ext_trans hb1 (by go_grown)) hb2
  have hG1 := hG1.ext (ext_trans (by go_grown) hb2)
  have hB1 := (Blk.new w1 25 (gC A1 c1 A1' c1' g)).ext hb2
  obtain ⟨p1, p2, p3⟩ := (hB1.alloc (.cells (gC A2 c2 A2' c2' g) 25)).facts
  clear hb1 hb2 hB1
  go_wp2_with fail
  refine (sameGraph_any _ _ _ _ _ _ _ _ g _ (hG1.ext (by go_grown)) (hG2.ext (by go_grown))).mono ?_
  rintro e w3 ⟨rfl, hb3⟩
  have hbb := ext_trans (ext_trans hbb (by go_grown)) hb3
  go_wp2_with fail
  go_ret
  exact ⟨by simp, hbb⟩
end Go.Proofs.YtdpibehpmghghaaDoor
