/- The walk of early.Arrivals. -/
import Derived.Test.YtcgnalpcbcpmkaaGrow
namespace Go.Proofs.Ytcgnalpcbcpmkaa
open Go.RowKit

def ArrOut (g : GraphD) (v t : Int) (l : List Int) : Prop := if placeErr g v t = 0 then EarlyL g v t l else l = []
set_option maxRecDepth 100000 in
set_option maxHeartbeats 1000000 in
theorem arrivals_any (A A' : Option Addr) (c c' : Nat) (g : GraphD) (v t : Int) (w : World) (hG : GraphAt w A c A' c' g) :
    Calls Try.prog 72 #[gV A c A' c' g, .int .i64 v, .int .i64 t] w (IntsOut (ArrOut g v t) (placeErr g v t) w) := by
  by_cases h0 : placeErr g v t = 0
  case neg =>
    have H0 := Lib.hid h0
    have hn : (placeErr g v t != 0) = true := by simp [h0]
    clear h0
    go_enter Try.func72, Try.ntmps72
    go_wp2_with fail
    refine (out_any _ _ _ _ g v t _ (hG.ext (by go_grown))).mono ?_
    rintro e w1 ⟨Ao, co, rfl, hSo, hmo, hb1⟩
    go_wp2_with fail
    go_ret2
    exact ⟨[], none, 0, by unfold ArrOut; rw [if_neg H0.out], rfl, SlAt.nil, by simp, ext_trans (by go_grown) hb1⟩
  obtain ⟨hV, ⟨hv0, hv1⟩, ht0, ht1⟩ := place_of h0
  have H0 := Lib.hid h0
  have hh1 := hV.h1
  clear h0
  go_enter Try.func72, Try.ntmps72
  go_wp2_with fail
  refine (out_any _ _ _ _ g v t _ (hG.ext (by go_grown))).mono ?_
  rw [H0.out]
  rintro e w1 ⟨Ao, co, rfl, hSo, hmo, hb1⟩
  obtain ⟨B0, c1, c2, c3⟩ := (Blk.new w 28 (gC A c A' c' g)).go hb1
  have hbw : Below w.heap.size w w1 := ext_trans (by go_grown) hb1
  clear hb1
  go_wp2_with fail
  refine (grow_any _ _ _ _ g v t _ (hG.ext hbw) hV hv0 hv1 ht0 ht1).mono ?_
  rintro e w2 ⟨l, hs, Al, Ah, HG, rfl, hS1, _, hb2⟩
  have hlen := HG.out.early.1
  have HL := Lib.hid hlen
  clear hlen
  have hfd : ∀ w : World, (Instr.field 158 (.agg #[.slice Al g.lives.length g.lives.length, .slice Ah g.lives.length g.lives.length]) 0).run Try.prog w = .ok (.slice Al g.lives.length g.lives.length) w := fun _ => by kernel_rfl
  go_wp2_with fail
  go_ret2
  rw [H0.out]
  exact ⟨l, Al, g.lives.length, by unfold ArrOut; rw [if_pos H0.out]; exact HG.out.early, by rw [HL.out]; rfl, hS1, by rw [HL.out]; have := hV.nl; unfold maxLen; omega, ext_trans hbw hb2⟩
end Go.Proofs.Ytcgnalpcbcpmkaa
