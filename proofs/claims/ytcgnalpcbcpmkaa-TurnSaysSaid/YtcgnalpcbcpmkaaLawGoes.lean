/- The walk of the law JourneyGoes: both Go's tell the same. -/
import Derived.Test.YtcgnalpcbcpmkaaGoMain
import Derived.Test.YtcgnalpcbcpmkaaRefGo
namespace Go.Proofs.Ytcgnalpcbcpmkaa
open Go.RowKit

theorem go_any (A A' Ah : Option Addr) (c c' ch : Nat) (g : GraphD) (v t : Int) (l : List HopD) (w : World) (hG : GraphAt w A c A' c' g) (hH : SlAt RHop 2 w Ah l) (hhl : l.length ≤ maxLen) :
    Calls Try.prog 36 #[gV A c A' c' g, .int .i64 v, .int .i64 t, .slice Ah l.length ch] w fun e w' => e = .returned (goV (goR g v t l)) ∧ Below w.heap.size w w' :=
  go_early A A' Ah c c' ch g v t l w hG hH hhl fun h0 h500 hal => go_main A A' Ah c c' ch g v t l w hG hH hhl h0 h500 hal
/-- Go's contract, its four results written out. -/
theorem go_tuple (A A' Ah : Option Addr) (c c' ch : Nat) (g : GraphD) (v t : Int) (l : List HopD) (w : World) (hG : GraphAt w A c A' c' g) (hH : SlAt RHop 2 w Ah l) (hhl : l.length ≤ maxLen) {a b d e : Int} (h : goR g v t l = (a, b, d, e)) :
    Calls Try.prog 36 #[gV A c A' c' g, .int .i64 v, .int .i64 t, .slice Ah l.length ch] w fun x w' => x = .returned (.tuple #[.int .i64 a, .int .i64 b, .int .i64 d, .int .i64 e]) ∧ Below w.heap.size w w' :=
  (go_any A A' Ah c c' ch g v t l w hG hH hhl).mono fun x w' ⟨he, hb⟩ => ⟨by rw [he, h]; rfl, hb⟩
theorem refGo_tuple (A A' Ah : Option Addr) (c c' ch : Nat) (g : GraphD) (v t : Int) (l : List HopD) (w : World) (hG : GraphAt w A c A' c' g) (hH : SlAt RHop 2 w Ah l) (hhl : l.length ≤ maxLen) {a b d e : Int} (h : goR g v t l = (a, b, d, e)) :
    Calls Try.prog 37 #[gV A c A' c' g, .int .i64 v, .int .i64 t, .slice Ah l.length ch] w fun x w' => x = .returned (.tuple #[.int .i64 a, .int .i64 b, .int .i64 d, .int .i64 e]) ∧ Below w.heap.size w w' :=
  (refGo_any A A' Ah c c' ch g v t l w hG hH hhl).mono fun x w' ⟨he, hb⟩ => ⟨by rw [he, h]; rfl, hb⟩

set_option maxHeartbeats 1000000 in
theorem journeyGoes_calls (A A' : Option Addr) (c c' : Nat) (g : GraphD) {w0 : World} (hG : GraphAt w0 A c A' c' g) (v : Int) (_hv : I64 v) (t : Int) (_ht : I64 t) (Ah : Option Addr) (ch : Nat) (l : List HopD) (hl : l.length ≤ ch) (hm : ch ≤ maxLen) (hH : SlAt RHop 2 w0 Ah l) :
    Calls Try.prog 5 #[gV A c A' c' g, .int .i64 v, .int .i64 t, .slice Ah l.length ch] w0 fun e w' => e = .returned (.bool true) ∧ Below w0.heap.size w0 w' := by
  have hhl := Nat.le_trans hl hm
  obtain ⟨a, b, d, e, hr⟩ : ∃ a b d e, goR g v t l = (a, b, d, e) := ⟨_, _, _, _, rfl⟩
  have HR := Lib.hid hr
  clear hr
  go_enter Try.func5, Try.ntmps5
  go_wp2_with fail
  refine (go_tuple _ _ _ _ _ _ g v t l _ (hG.ext (by go_grown)) (hH.ext RHop.stable (by go_grown)) hhl HR.out).mono ?_
  rintro x w1 ⟨rfl, hb1⟩
  obtain ⟨B0, c1, c2, c3⟩ := (Blk.new w0 28 (gC A c A' c' g)).go hb1
  have hb2 : Below w0.heap.size w0 w1 := ext_trans (by go_grown) hb1
  go_wp2_with fail
  refine (refGo_tuple _ _ _ _ _ _ g v t l _ (hG.ext hb2) (hH.ext RHop.stable hb2) hhl HR.out).mono ?_
  rintro x w2 ⟨rfl, hb3⟩
  go_wp2_with fail
  go_ret
  exact ⟨by simp, ext_trans hb2 hb3⟩
end Go.Proofs.Ytcgnalpcbcpmkaa
