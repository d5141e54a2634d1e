/- The walk of timekeep.early0: the times of the pair are as they should be. -/
import Derived.Test.YtcgnalpcbcpmkaaDepart
import Derived.Test.YtcgnalpcbcpmkaaPairEarly
import Derived.Test.YtcgnalpcbcpmkaaInts
namespace Go.Proofs.Ytcgnalpcbcpmkaa
open Go.RowKit

section
variable {g : GraphD} {v t : Int} {l : List Int}
theorem arr_good (h : placeErr g v t = 0) : ArrOut g v t l → EarlyL g v t l := fun hl => by unfold ArrOut at hl; rwa [if_pos h] at hl
theorem arr_bad (h : ¬ placeErr g v t = 0) : ArrOut g v t l → l = [] := fun hl => by unfold ArrOut at hl; rwa [if_neg h] at hl
theorem dep_good (h : placeErr g v t = 0) : DepOut g v t l → LateL g v t l := fun hl => by unfold DepOut at hl; rwa [if_pos h] at hl
theorem dep_bad (h : ¬ placeErr g v t = 0) : DepOut g v t l → l = [] := fun hl => by unfold DepOut at hl; rwa [if_neg h] at hl
theorem place_ok (hV : Valid g) (h0 : 0 ≤ v) (h1 : v < g.lives.length) (h2 : 0 ≤ t) (h3 : t < g.h) : placeErr g v t = 0 := by
  unfold placeErr
  rw [if_pos (valid_ok hV), if_pos (inB_iff.2 (by omega)), if_pos (inB_iff.2 (by omega))]
end
theorem pair_place0 : placeErr pairG 0 0 = 0 := by decide
theorem pair_place1 : placeErr pairG 1 5 = 0 := by decide
theorem ints2_at {w : World} {g : Nat} {a b : Int} (h : Blk w g 3 #[.int .i64 a, .int .i64 b]) (ha : I64 a) (hb : I64 b) : SlAt RInt 1 w (some ⟨g, 0, none⟩) [a, b] :=
  IRow.slAt (l := [a, b]) h fun k hk => by
    match k, hk with
    | 0, _ => exact ha
    | 1, _ => exact hb
    | k + 2, hk => exact absurd hk (by simp)

set_option maxRecDepth 100000 in
set_option maxHeartbeats 2000000 in
theorem early0_any (w : World) : Calls Try.prog 82 #[] w fun e w' => e = .returned (.bool true) ∧ Below w.heap.size w w' := by
  go_enter Try.func82, Try.ntmps82
  go_wp2_with fail
  refine (pair_any _).mono ?_
  rintro e w1 ⟨Ar, cr, Ar', cr', rfl, hGr, hb1⟩
  go_wp2_with fail
  refine (arrivals_any _ _ _ _ pairG 0 0 _ hGr).mono ?_
  intro e w2 hr
  obtain ⟨l1, A1, d1, HQ, rfl, hA1, hm1, hb2⟩ := ints_good (Q := fun l => l = [0, 4]) hr pair_place0 (fun _ hl => pair_early (arr_good pair_place0 hl))
  obtain rfl := HQ.out
  have hbw := ext_trans hb1 hb2
  clear hb1 hb2 hr HQ hGr
  go_wp2_with fail
  refine (pair_any _).mono ?_
  rintro e w3 ⟨Br, er, Br', er', rfl, hGr, hb3⟩
  have hA1 := hA1.ext RInt.stable hb3
  have hbw := ext_trans hbw hb3
  clear hb3
  go_wp2_with fail
  refine (departures_any _ _ _ _ pairG 1 5 _ hGr).mono ?_
  intro e w4 hr
  obtain ⟨l2, A2, d2, HQ, rfl, hA2, hm2, hb2⟩ := ints_good (Q := fun l => l = [2, 5]) hr pair_place1 (fun _ hl => pair_late (dep_good pair_place1 hl))
  obtain rfl := HQ.out
  have hA1 := hA1.ext RInt.stable hb2
  have hbw := ext_trans hbw hb2
  clear hb2 hr HQ hGr
  go_wp2_with fail
  refine (equalSame_any _ _ _ _ [0, 4] _ _ _ (hA1.ext RInt.stable (by go_grown)) (ints2_at (Blk.new_ rfl) ⟨by decide, by decide⟩ ⟨by decide, by decide⟩) (by simp [maxLen]) rfl rfl).mono ?_
  rintro e w5 ⟨rfl, hb3⟩
  have hb3 : Below w4.heap.size w4 w5 := ext_trans (by go_grown) hb3
  have hA2 := hA2.ext RInt.stable hb3
  have hbw := ext_trans hbw hb3
  clear hb3 hA1
  go_wp2_with fail
  refine (equalSame_any _ _ _ _ [2, 5] _ _ _ (hA2.ext RInt.stable (by go_grown)) (ints2_at (Blk.new_ rfl) ⟨by decide, by decide⟩ ⟨by decide, by decide⟩) (by simp [maxLen]) rfl rfl).mono ?_
  rintro e w6 ⟨rfl, hb3⟩
  have hb3 : Below w5.heap.size w5 w6 := ext_trans (by go_grown) hb3
  go_wp2_with fail
  go_ret
  exact ⟨rfl, ext_trans hbw hb3⟩
end Go.Proofs.Ytcgnalpcbcpmkaa
