/- One text: Pieces. -/
import Derived.BigRegion
import Derived.Test.YtdpibehpmghghaaDoorBd2d2933bc1a
import Derived.Test.YtdpibehpmghghaaDoorBd8623bbcbb2
/- The walk of the document's Pieces. -/
namespace Go.Proofs.YtdpibehpmghghaaDoor
open Go.RowKit

theorem info_str1 : (Tryd.prog.info? 9).map (fun i => (i.zero, i.size, i.bytes)) = some (some (.string ByteArray.empty), 1, 16) := by kernel_rfl
theorem info_str2 : ∃ i, Tryd.prog.info? 9 = some i ∧ i.zero = some (.string ByteArray.empty) ∧ i.size = 1 ∧ i.bytes = 16 := by
  obtain ⟨i0, hi, hzz⟩ := Option.map_eq_some_iff.1 info_str1
  simp only [Prod.mk.injEq] at hzz
  exact ⟨i0, hi, hzz.1, hzz.2.1, hzz.2.2⟩
theorem str_one {s : ByteArray} : ∀ u ∈ (#[.string s] : Array Value).toList, u.oneCell' = true := by simp [Value.oneCell']
theorem bs_ext {l : List UInt8} {k : Nat} {b : UInt8} (h : l[k]? = some b) : (bs l).extract k (k + 1) = bs [b] := by
  apply ByteArray.ext
  apply Array.ext'
  have hk := lt_of_get h
  obtain ⟨_, rfl⟩ := List.getElem?_eq_some_iff.1 h
  simp only [bs, ByteArray.data_extract, List.extract_toArray, List.extract_eq_take_drop]
  rw [show k + 1 - k = 1 by omega, List.drop_eq_getElem_cons hk]
  rfl
theorem cat_run (a b : List UInt8) (h : a.length + b.length ≤ 9223372036854775807) (W : World) : (Op.stringOp .add (bs a) (bs b)).run Tryd.prog W = .ok (.string (bs (a ++ b))) W := by
  unfold Op.stringOp
  simp only
  rw [if_neg (by
    rw [bs_size, bs_size]
    have : IntKind.i64.max = 9223372036854775807 := rfl
    omega), bs_add]
  rfl
/-- A list of strings that a call tells, in memory of its own. -/
def StrsOut (l : List (List UInt8)) (w : World) (e : Ending) (w' : World) : Prop := ∃ g c, e = .returned (.slice (some ⟨g, 0, none⟩) l.length c) ∧ Own strEnc 1 w' w.heap.size 9 (.slice (some ⟨g, 0, none⟩) l.length c) l ∧ Below w.heap.size w w'
set_option maxRecDepth 100000 in
set_option maxHeartbeats 16000000 in
theorem refPieces_any (l : List UInt8) (c : UInt8) (w : World) (hl : l.length ≤ 100000) : Calls Tryd.prog 44 #[.string (bs l), .int .u8 c.toNat] w (StrsOut (piecesB c l) w) := by
  have hsz := bs_size l
  obtain ⟨s, hs⟩ : ∃ s, bs l = s := ⟨_, rfl⟩
  have HB : Hid (∀ k b, l[k]? = some b → byteAt s k = b.toNat ∧ s.extract k (k + 1) = bs [b]) := Lib.hid fun k b h => by rw [← hs]; exact ⟨bs_at h, bs_ext h⟩
  rw [hs] at hsz ⊢
  have HSZ := Lib.hid hsz
  have hl' : s.size ≤ 100000 := by omega
  clear hs hsz hl
  obtain ⟨i0, hi, hz0, hz1, hz2⟩ := info_str2
  go_enter Tryd.func44, Tryd.ntmps44
  go_wp2_with fail
  go_loopw [5, 6] (fun u v wr => ∃ (k : Nat) (init : List (List UInt8)) (last : List UInt8) (g cc : Nat), k ≤ s.size ∧ v = .int .i64 k ∧ u = .slice (some ⟨g, 0, none⟩) (init.length + 1) cc ∧ Hid (piecesB c (l.take k) = init ++ [last] ∧ init.length ≤ k ∧ last.length ≤ k) ∧ Own strEnc 1 wr w.heap.size 9 (.slice (some ⟨g, 0, none⟩) (init.length + 1) cc) (init ++ [last]) ∧ Below w.heap.size w wr) (fun _ v _ => s.size - (intOf v).toNat)
  case atStart =>
    refine ⟨0, [], [], w.heap.size, 1, Nat.zero_le _, rfl, rfl, Lib.hid ⟨rfl, by simp, by simp⟩, ?_, by go_grown⟩
    exact Own.lit (enc := strEnc) (l := [[]]) rfl (Nat.le_refl _) rfl rfl rfl (by decide)
  case round =>
    obtain ⟨k, init, last, g, cc, hk, rfl, rfl, HK, hO, hb⟩ := hrel
    have hzr := hb.size
    have hil := HK.out.2.1
    have hll := HK.out.2.2
    by_cases hlt : k < s.size
    case neg =>
      obtain rfl : k = s.size := by omega
      have HE : Hid (piecesB c l = init ++ [last]) := Lib.hid (by
        have := HK.out.1
        rwa [HSZ.out, List.take_length] at this)
      clear HK
      go_wp2_with fail
      go_ret
      refine ⟨g, cc, ?_, ?_, hb⟩
      · rw [HE.out, List.length_append]; rfl
      · rw [HE.out, List.length_append]; exact hO
    case pos =>
      obtain ⟨b, hbk⟩ := get_lt (show k < l.length by rw [← HSZ.out]; exact hlt)
      obtain ⟨hb', hext⟩ := HB.out k b hbk
      have g1 : ((s[k]'hlt).toNat) = byteAt s k := (byteAt_of hlt).symm
      have hb8 := byteAt_lt s k
      have hcl : init.length + 1 + 1 ≤ 1000000 := by omega
      by_cases hc : b = c
      · have hq : ((byteAt s k : Int) == (c.toNat : Int)) = true := by rw [hb', hc]; simp
        have HN : Hid (piecesB c (l.take (k + 1)) = (init ++ [last]) ++ [[]]) := Lib.hid (by rw [pieces_take hbk HK.out.1, if_pos hc])
        have hcl2 : (init ++ [last]).length + 1 ≤ 1000000 := by simp; omega
        clear hc hbk hb' hext HK
        go_wp2_with (at_builtin; refine wpList_append_lie (enc := strEnc) rfl (.tmp 19) (.tmp 20) 94 rfl w.heap.size 9 i0 _ 1 16 Tryd.underlying94 hi hz0 hz1 hz2 rfl (by decide) _ (init ++ [last]) [] rfl hO _ rfl wr.heap.size rfl rfl rfl str_one hcl2 (by decide) hzr ?_; intro gn cap w6 hown6 hbb hkp hgn; rw [List.length_append] at hown6 ⊢)
        go_roundw
        case rel => exact ⟨k + 1, init ++ [last], [], gn, cap, by omega, by go_num, by simp, Lib.hid ⟨HN.out, by simp; omega, by simp⟩, by simpa using hown6, hb.trans hbb⟩
        case measure => simp [intOf]; omega
      · have hq : ((byteAt s k : Int) == (c.toNat : Int)) = false := by
          rw [hb']
          simp
          intro e
          exact hc (UInt8.toNat_inj.1 (by omega))
        have HN : Hid (piecesB c (l.take (k + 1)) = init ++ [last ++ [b]]) := Lib.hid (by rw [pieces_take hbk HK.out.1, if_neg hc])
        obtain ⟨hnm, hgo, hmc, hcm, cs, hBk, hcs, hrow⟩ := hO.cells strEnc_len
        have hza : (init ++ [last])[init.length]? = some last := by simp
        have z0 : cs[init.length]? = some (.string (bs last)) := by have := hrow _ last hza 0 (by decide); simpa [strEnc] using this
        have hjw : IntKind.i64.wrap (init.length : Int) = init.length := IntWalk.i64_in _ (by omega)
        have hkw : IntKind.i64.wrap ((k : Int) + 1) = (k : Int) + 1 := IntWalk.i64_in _ (by omega)
        have hjl : init.length < init.length + 1 := by omega
        have hjz : (init.length : Int) < (init.length : Int) + 1 := by omega
        have hk1 : k + 1 ≤ s.size := by omega
        have hk2 : (k : Int) + 1 ≤ (s.size : Int) := by omega
        have hk3 : (k : Int) ≤ (k : Int) + 1 := by omega
        have hk4 : (0 : Int) ≤ (k : Int) + 1 := by omega
        have hk5 : ((k : Int) + 1).toNat = k + 1 := by omega
        obtain ⟨c1, c2, c3⟩ := hBk.facts
        have HR := Lib.hid hrow
        have HMC := Lib.hid hmc
        have HCS := Lib.hid hcs
        have Z0 := Lib.hid z0
        clear hc hbk hb' HK hrow hmc hnm hza hcs
        have hcat := cat_run last [b] (by simp; omega)
        go_wp2_with fail
        obtain ⟨S, hSS⟩ : ∃ S : World → Prop, Hid (S = fun w' => w'.cell? ⟨g, init.length, none⟩ = some (.string (bs last))) := ⟨_, Lib.hid rfl⟩
        have hS0 : S wr.drew := by rw [hSS.out]; exact (hBk.cell _).trans z0
        refine WpN.begin (S := S) 13 (by kernel_rfl) ?_
        refine WpN.takeD (i := 0) (v := ?_) rfl rfl (by kernel_rfl) (fun _ _ _ h => h) (Or.inl ⟨by rfl, ?_⟩) (by assumption) ?_
        rotate_left
        · intro w hSw; rw [hSS.out] at hSw; have sw0 := hSw; clear hSw; go_simp; try with_reducible rfl
        try simp only [Act.put, List.setIfInBounds_toArray, List.set_cons_zero, List.set_cons_succ]
        refine WpN.takeD (i := 1) (v := ?_) rfl rfl (by kernel_rfl) (fun _ _ _ h => h) (Or.inl ⟨by rfl, ?_⟩) (by assumption) ?_
        rotate_left
        · intro w hSw; rw [hSS.out] at hSw; have sw0 := hSw; clear hSw; go_simp; try with_reducible rfl
        try simp only [Act.put, List.setIfInBounds_toArray, List.set_cons_zero, List.set_cons_succ]
        refine WpN.takeD (i := 2) (v := ?_) rfl rfl (by kernel_rfl) (fun _ _ _ h => h) (Or.inl ⟨by rfl, ?_⟩) (by assumption) ?_
        rotate_left
        · intro w hSw; rw [hSS.out] at hSw; have sw0 := hSw; clear hSw; go_simp; try with_reducible rfl
        try simp only [Act.put, List.setIfInBounds_toArray, List.set_cons_zero, List.set_cons_succ]
        refine WpN.takeD (i := 3) (v := ?_) rfl rfl (by kernel_rfl) (fun _ _ _ h => h) (Or.inl ⟨by rfl, ?_⟩) (by assumption) ?_
        rotate_left
        · intro w hSw; rw [hSS.out] at hSw; have sw0 := hSw; clear hSw; go_simp; try with_reducible rfl
        try simp only [Act.put, List.setIfInBounds_toArray, List.set_cons_zero, List.set_cons_succ]
        refine WpN.takeD (i := 4) (v := ?_) rfl rfl (by kernel_rfl) (fun _ _ _ h => h) (Or.inl ⟨by rfl, ?_⟩) (by assumption) ?_
        rotate_left
        · intro w hSw; rw [hSS.out] at hSw; have sw0 := hSw; clear hSw; go_simp; try with_reducible rfl
        try simp only [Act.put, List.setIfInBounds_toArray, List.set_cons_zero, List.set_cons_succ]
        refine WpN.takeD (i := 5) (v := ?_) rfl rfl (by kernel_rfl) (fun _ _ _ h => h) (Or.inl ⟨by rfl, ?_⟩) (by assumption) ?_
        rotate_left
        · intro w hSw; rw [hSS.out] at hSw; have sw0 := hSw; clear hSw; go_simp; try with_reducible rfl
        try simp only [Act.put, List.setIfInBounds_toArray, List.set_cons_zero, List.set_cons_succ]
        refine WpN.takeD (i := 6) (v := ?_) rfl rfl (by kernel_rfl) (fun _ _ _ h => h) (Or.inl ⟨by rfl, ?_⟩) (by assumption) ?_
        rotate_left
        · intro w hSw; rw [hSS.out] at hSw; have sw0 := hSw; clear hSw; go_simp; try with_reducible rfl
        try simp only [Act.put, List.setIfInBounds_toArray, List.set_cons_zero, List.set_cons_succ]
        refine WpN.takeD (i := 7) (v := ?_) rfl rfl (by kernel_rfl) (fun _ _ _ h => h) (Or.inl ⟨by rfl, ?_⟩) (by assumption) ?_
        rotate_left
        · intro w hSw; rw [hSS.out] at hSw; have sw0 := hSw; clear hSw; go_simp; try with_reducible rfl
        try simp only [Act.put, List.setIfInBounds_toArray, List.set_cons_zero, List.set_cons_succ]
        refine WpN.takeD (i := 8) (v := ?_) rfl rfl (by kernel_rfl) (fun _ _ _ h => h) (Or.inl ⟨by rfl, ?_⟩) (by assumption) ?_
        rotate_left
        · intro w hSw; rw [hSS.out] at hSw; have sw0 := hSw; clear hSw; go_simp; try with_reducible rfl
        try simp only [Act.put, List.setIfInBounds_toArray, List.set_cons_zero, List.set_cons_succ]
        refine WpN.takeD (i := 9) (v := ?_) rfl rfl (by kernel_rfl) (fun _ _ _ h => h) (Or.inl ⟨by rfl, ?_⟩) (by assumption) ?_
        rotate_left
        · intro w hSw; rw [hSS.out] at hSw; have sw0 := hSw; clear hSw; go_simp; try with_reducible rfl
        try simp only [Act.put, List.setIfInBounds_toArray, List.set_cons_zero, List.set_cons_succ]
        refine WpN.takeD (i := 10) (v := ?_) rfl rfl (by kernel_rfl) (fun _ _ _ h => h) (Or.inl ⟨by rfl, ?_⟩) (by assumption) ?_
        rotate_left
        · intro w hSw; rw [hSS.out] at hSw; have sw0 := hSw; clear hSw; go_simp; try with_reducible rfl
        try simp only [Act.put, List.setIfInBounds_toArray, List.set_cons_zero, List.set_cons_succ]
        refine WpN.takeD (i := 11) (v := ?_) rfl rfl (by kernel_rfl) (fun _ _ _ h => h) (Or.inl ⟨by rfl, ?_⟩) (by assumption) ?_
        rotate_left
        · intro w hSw; rw [hSS.out] at hSw; have sw0 := hSw; clear hSw; go_simp; try with_reducible rfl
        try simp only [Act.put, List.setIfInBounds_toArray, List.set_cons_zero, List.set_cons_succ]
        refine WpN.takeD (i := 12) (v := ?_) rfl rfl (by kernel_rfl) (fun _ _ _ h => h) (Or.inl ⟨by rfl, ?_⟩) (by assumption) ?_
        rotate_left
        · intro w hSw; rw [hSS.out] at hSw; have sw0 := hSw; clear hSw; go_simp; try with_reducible rfl
        try simp only [Act.put, List.setIfInBounds_toArray, List.set_cons_zero, List.set_cons_succ]
        refine WpN.one (i := 13) rfl (by kernel_rfl) fun K hK => ?_
        go_wp2_with fail
        refine hK.out _ _ ⟨fun h => by omega, ?_⟩
        clear hK K
        refine WpN.done (by kernel_rfl) ?_ _
        go_wp2_with fail
        go_roundw
        case rel =>
          refine ⟨k + 1, init, last ++ [b], g, cc, by omega, by go_num, rfl, Lib.hid ⟨HN.out, by omega, by simp; omega⟩, ?_, by exact (below_drew hb).setCell hgo _⟩
          have h2 := Own.of_cells (enc := strEnc) (m := init ++ [last ++ [b]]) strEnc_len (by decide) ((hBk.drew).set_ init.length (.string (bs (last ++ [b])))) hgo (by have := HMC.out; simpa using this) hcm (by simpa using HCS.out) (by
            have e : (init ++ [last]).set init.length (last ++ [b]) = init ++ [last ++ [b]] := by simp
            rw [← e]
            refine HR.out.set (by simp) (fun t ht => by rw [Array.getElem?_setIfInBounds_ne (by omega)]) (fun t ht => ?_)
            have k1 : init.length < cs.size := (Array.getElem?_eq_some_iff.1 Z0.out).1
            obtain rfl : t = 0 := by omega
            simp only [Nat.mul_one, Nat.add_zero]
            rw [Array.getElem?_setIfInBounds_self_of_lt k1]; rfl)
          rw [show (init ++ [last ++ [b]]).length = init.length + 1 by simp] at h2
          exact h2
        case measure => simp [intOf]; omega
end Go.Proofs.YtdpibehpmghghaaDoor
