/- One text: WarpTimes. -/
import Derived.Test.YtdpibehpmghghaaBd6e8c96c3f2
import Derived.Test.YtdpibehpmghghaaBdcb392c71d7
import Derived.Test.YtdpibehpmghghaaBd457b903ce2
/- The walks of warp.times and warp.same. -/
namespace Go.Proofs.Ytdpibehpmghghaa
open Go.RowKit Go.Shelf

set_option maxRecDepth 100000 in
set_option maxHeartbeats 8000000 in
theorem warpTimes_any (A B : Option Addr) (c d : Nat) (m r : List PieceD) (w : World) (hA : PiecesAt w A c m) (hB : PiecesAt w B d r) (hlm : m.length ≤ 1000) (hlr : r.length ≤ 1000) :
    Calls Try.prog 115 #[.slice A m.length c, .slice B r.length d] w (CompOut (endsP m ++ endsP r) w w.heap.size) := by
  obtain ⟨i0, hi, hz0, hz1, hz2⟩ := info_int2
  have HI0 := Lib.hid hA; have HI1 := Lib.hid hB
  have m0l := hA.len
  have m1l := hB.len
  clear hA hB
  go_enter Try.func115, Try.ntmps115
  go_wp2_with fail
  go_loopw [5, 12] (fun u v wt => ∃ (k : Nat), k ≤ m.length ∧ v = .int .i64 k ∧ Own intEnc 1 wt w.heap.size 3 u (endsP (m.take k)) ∧ Below w.heap.size w wt) (fun _ v _ => m.length - (intOf v).toNat)
  case atStart => exact ⟨0, Nat.zero_le _, rfl, Own.nil, Below.refl _ _⟩
  case round =>
    obtain ⟨k, hk, rfl, hO, hb⟩ := hrel
    have hzw := hb.size
    by_cases hlt : k < m.length
    case pos =>
      obtain ⟨x, hx⟩ := get_lt hlt
      obtain ⟨b, off, rfl, hb0, x0, x1, x2⟩ := HI0.out.get hx
      rw [← hb.cell (by exact hb0)] at x0 x1 x2
      have HN : Hid (endsP (m.take (k + 1)) = endsP (m.take k) ++ [x.f, x.t]) := Lib.hid (by rw [takeM_succ hx, endsP_snoc])
      have hcl : (endsP (m.take k)).length + 2 ≤ 1000000 := by
        have h1 := hlm; have h2 := hlr
        simp only [endsP_len, List.length_take]; omega
      obtain ⟨a2, ha2⟩ : ∃ a2, a2 = endsP (m.take k) := ⟨_, rfl⟩
      have HA2 := Lib.hid ha2
      rw [← ha2] at hcl hO
      clear hx ha2
      go_wp2_with (at_builtin; refine wpList_append_els (enc := intEnc) rfl (.tmp 16) (.tmp 21) 66 rfl w.heap.size 3 i0 _ 1 8 Try.underlying66 hi hz0 hz1 hz2 rfl (by decide) _ a2 [x.f, x.t] 2 rfl rfl (hO.alloc _) #[.int .i64 x.f, .int .i64 x.t] rfl (wr.heap.size + 1) (by simp) rfl rfl int_one2 hcl (by decide) (by simp; omega) ?_; intro v' w6 hown6 hb8 _)
      go_roundw
      case rel => exact ⟨k + 1, by omega, by go_num, by rw [HN.out, ← HA2.out]; exact hown6, (ext_alloc hb _).trans hb8⟩
      case measure => simp [intOf]; omega
    case neg =>
      obtain rfl : k = m.length := by omega
      rw [List.take_length] at hO
      obtain ⟨wo, hwo⟩ : ∃ wo : World, wo = wr := ⟨_, rfl⟩
      rw [← hwo] at hO hb hzw ⊢
      clear hwo
      go_wp2_with fail
      go_loopw [5, 26] (fun u v wt => ∃ (k : Nat), k ≤ r.length ∧ v = .int .i64 k ∧ Own intEnc 1 wt w.heap.size 3 u (endsP m ++ endsP (r.take k)) ∧ Below w.heap.size w wt) (fun _ v _ => r.length - (intOf v).toNat)
      case atStart => exact ⟨0, Nat.zero_le _, rfl, by simpa [endsP] using hO, hb⟩
      case round =>
        clear hO hb
        obtain ⟨k, hk, rfl, hO, hb⟩ := hrel
        have hzr := hb.size
        by_cases hlt : k < r.length
        case pos =>
          obtain ⟨x, hx⟩ := get_lt hlt
          obtain ⟨b, off, rfl, hb0, x0, x1, x2⟩ := HI1.out.get hx
          rw [← hb.cell (by exact hb0)] at x0 x1 x2
          have HN : Hid (endsP (r.take (k + 1)) = endsP (r.take k) ++ [x.f, x.t]) := Lib.hid (by rw [takeM_succ hx, endsP_snoc])
          have hcl : (endsP m ++ endsP (r.take k)).length + 2 ≤ 1000000 := by
            have h1 := hlm; have h2 := hlr
            simp only [List.length_append, endsP_len, List.length_take]; omega
          obtain ⟨a2, ha2⟩ : ∃ a2, a2 = endsP m ++ endsP (r.take k) := ⟨_, rfl⟩
          have HA2 := Lib.hid ha2
          rw [← ha2] at hcl hO
          clear hx ha2
          go_wp2_with (at_builtin; refine wpList_append_els (enc := intEnc) rfl (.tmp 30) (.tmp 35) 66 rfl w.heap.size 3 i0 _ 1 8 Try.underlying66 hi hz0 hz1 hz2 rfl (by decide) _ a2 [x.f, x.t] 2 rfl rfl (hO.alloc _) #[.int .i64 x.f, .int .i64 x.t] rfl (wr.heap.size + 1) (by simp) rfl rfl int_one2 hcl (by decide) (by simp; omega) ?_; intro v' w6 hown6 hb8 _)
          go_roundw
          case rel => exact ⟨k + 1, by omega, by go_num, by rw [HN.out, ← List.append_assoc, ← HA2.out]; exact hown6, (ext_alloc hb _).trans hb8⟩
          case measure => simp [intOf]; omega
        case neg =>
          obtain rfl : k = r.length := by omega
          rw [List.take_length] at hO
          obtain ⟨acc, ha⟩ : ∃ acc, acc = endsP m ++ endsP r := ⟨_, rfl⟩
          rw [← ha] at hO
          have HA := Lib.hid ha
          have hi64 : ∀ x, x ∈ acc → I64 x := fun x hx => by
            rw [ha] at hx
            rcases List.mem_append.1 hx with hx | hx
            · obtain ⟨y, hy, h⟩ := mem_endsP.1 hx
              obtain ⟨k, hk⟩ := List.getElem?_of_mem hy
              have := HI0.out.i64 hk
              rcases h with rfl | rfl
              · exact this.1
              · exact this.2.1
            · obtain ⟨y, hy, h⟩ := mem_endsP.1 hx
              obtain ⟨k, hk⟩ := List.getElem?_of_mem hy
              have := HI1.out.i64 hk
              rcases h with rfl | rfl
              · exact this.1
              · exact this.2.1
          have hal : acc.length ≤ 100000 := by rw [ha, List.length_append, endsP_len, endsP_len]; omega
          have HI64 := Lib.hid hi64
          clear ha hi64
          go_wp2_with fail
          refine (sortInts_any _ acc wr w.heap.size hO hzr hal).mono ?_
          rintro e w7 ⟨rfl, S, hmem, hlen, hsort, O7, hb7⟩
          have hb8 := hb.trans hb7
          have hC := compact_any _ S w7 w.heap.size O7 hb8.size (by omega) hsort (fun x hx => HI64.out x ((hmem x).1 hx))
          have HM := Lib.hid hmem
          have HLN := Lib.hid hlen
          clear hmem hlen hsort O7 hO
          go_wp2_with fail
          refine hC.mono ?_
          rintro e w8 ⟨A8, c8, D, HD, rfl, hI8, hb9⟩
          go_wp2_with fail
          go_ret
          exact ⟨A8, c8, D, Lib.hid ⟨HD.out.1, fun x => by rw [HD.out.2.1, HM.out, HA.out], by rw [← HA.out, ← HLN.out]; exact HD.out.2.2⟩, rfl, hI8, hb8.trans hb9⟩
theorem opt_eq {o p : Option Int} : o = p ↔ o.getD 0 = p.getD 0 ∧ o.isSome = p.isSome := by
  cases o <;> cases p <;> simp
set_option maxRecDepth 100000 in
set_option maxHeartbeats 4000000 in
theorem warpSame_any (A B : Option Addr) (c d n m : Nat) (o p : Option Int) (a b : List Int) (w : World) (hA : IntsAt w A c a) (hB : IntsAt w B d b) (hn : a.length = n) (hm : b.length = m) :
    Calls Try.prog 117 #[momV A n c o, momV B m d p] w fun e w' => e = .returned (.bool (decide (a = b ∧ o = p))) ∧ Below w.heap.size w w' := by
  subst hn hm
  have HA := Lib.hid hA; have HB := Lib.hid hB
  have m1 := hA.len
  have m2 := hB.len
  clear hA hB
  obtain ⟨os, hos⟩ : ∃ x, o.getD 0 = x := ⟨_, rfl⟩
  obtain ⟨ob, hob⟩ : ∃ x, o.isSome = x := ⟨_, rfl⟩
  obtain ⟨ps, hps⟩ : ∃ x, p.getD 0 = x := ⟨_, rfl⟩
  obtain ⟨pb, hpb⟩ : ∃ x, p.isSome = x := ⟨_, rfl⟩
  have HO : Hid (o = p ↔ os = ps ∧ ob = pb) := Lib.hid (by rw [opt_eq, hos, hob, hps, hpb])
  unfold momV momC
  rw [hos, hob, hps, hpb]
  clear hos hob hps hpb
  by_cases h1 : os = ps
  case neg =>
    have hd1 : (os == ps) = false := by simpa using h1
    have HF : Hid (decide (a = b ∧ o = p) = false) := Lib.hid (by simp [HO.out, h1])
    rw [HF.out]
    clear h1
    go_enter Try.func117, Try.ntmps117
    go_wp2_with fail
    go_ret
    exact ⟨rfl, by go_grown⟩
  case pos =>
  subst h1
  by_cases h2 : ob = pb
  case neg =>
    have hd2 : (ob == pb) = false := by simpa using h2
    have HF : Hid (decide (a = b ∧ o = p) = false) := Lib.hid (by simp [HO.out, h2])
    rw [HF.out]
    clear h2
    go_enter Try.func117, Try.ntmps117
    go_wp2_with fail
    go_ret
    exact ⟨rfl, by go_grown⟩
  case pos =>
  subst h2
  have HF : Hid (decide (a = b ∧ o = p) = decide (a = b)) := Lib.hid (by simp [HO.out])
  rw [HF.out]
  go_enter Try.func117, Try.ntmps117
  go_wp2_with fail
  refine (equalInts_any _ _ _ _ a b _ (HA.out.ext (by go_grown)).sl (HB.out.ext (by go_grown)).sl (Nat.le_trans HA.out.lc HA.out.cm) (Nat.le_trans HB.out.lc HB.out.cm)).mono ?_
  rintro e w1 ⟨rfl, hb1⟩
  go_wp2_with fail
  go_ret
  exact ⟨rfl, ext_trans (by go_grown) hb1⟩
end Go.Proofs.Ytdpibehpmghghaa
