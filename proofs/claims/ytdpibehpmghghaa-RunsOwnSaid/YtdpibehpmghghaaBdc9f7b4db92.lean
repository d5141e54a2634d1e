/- One text: BspLess. -/
import Derived.Test.YtdpibehpmghghaaBd557d11d61f
import Derived.Test.YtdpibehpmghghaaBd150254ca97
import Derived.Test.YtdpibehpmghghaaBd20f32e1654
import Derived.Test.YtdpibehpmghghaaBd8ebe23725f
/- The walk of bsp.less. -/
namespace Go.Proofs.Ytdpibehpmghghaa
open Go.RowKit

theorem pieceC_len3 (x : PieceD) : (pieceC x).length = 3 := rfl
theorem ivlC_len3 (x : IvlD) : (ivlC x).length = 2 := rfl
theorem LessK.len {h : Int} {now was F : List PieceD} {k : Nat} (hK : LessK h now was F k) (h0 : 0 ≤ h) : (F.length : Int) ≤ h := by
  have := span_len (l := F.map fun x => (x.f, x.t)) (lo := 0) (hi := h) (List.pairwise_map.2 hK.rise) (fun y hy => by
    obtain ⟨x, hx, rfl⟩ := List.mem_map.1 hy
    have := (hK.in_ x hx).1
    exact ⟨this.2.1, this.1, this.2.2⟩) h0
  simpa using this
theorem rest_len {p : PieceD} {was : List PieceD} {rest : List IvlD} {h : Int} (hr : RestIs p was rest) (hp : 0 ≤ p.f ∧ p.f < p.t ∧ p.t ≤ h) : (rest.length : Int) ≤ h := by
  have := span_len (l := rest.map fun x => (x.f, x.t)) (lo := 0) (hi := h) (List.pairwise_map.2 (hr.1.1.imp fun k => Int.le_of_lt k)) (fun y hy => by
    obtain ⟨x, hx, rfl⟩ := List.mem_map.1 hy
    have := rest_in hr x hx
    exact ⟨this.2.1, by omega, by omega⟩) (by omega)
  simpa using this
def BLessOut (h : Int) (now was : List PieceD) (w : World) (e : Ending) (w' : World) : Prop := ∃ A c F, Hid (FreshIs h now (val was) F) ∧ e = .returned (.slice A F.length c) ∧ PiecesNew w.heap.size w' A c F ∧ Below w.heap.size w w'
set_option maxRecDepth 100000 in
set_option maxHeartbeats 16000000 in
theorem bspLess_any (h : Int) (A B : Option Addr) (c d : Nat) (now was : List PieceD) (w : World) (hA : PiecesAt w A c now) (hB : PiecesAt w B d was) (hnow : Lies h now) (hwas : Lies h was) (h1 : 1 ≤ h) (h100 : h ≤ 100) :
    Calls Try.prog 98 #[.slice A now.length c, .slice B was.length d] w (BLessOut h now was w) := by
  obtain ⟨i0, hi, hz0, hz1, hz2⟩ := info_piece2
  obtain ⟨j0, hj, hy0, hy1, hy2⟩ := info_ivl2
  have HA := Lib.hid hA; have HB := Lib.hid hB; have HN := Lib.hid hnow; have HW := Lib.hid hwas
  have m1 := hA.len; have m2 := hB.len
  have hnl : now.length ≤ 100 := by have := hnow.len (by omega); omega
  have hwl : was.length ≤ 100 := by have := hwas.len (by omega); omega
  clear hA hB hnow hwas
  go_enter Try.func98, Try.ntmps98
  go_wp2_with fail
  go_loopw [5, 18] (fun u v wr => ∃ (k : Nat) (F : List PieceD), v = .int .i64 k ∧ k ≤ now.length ∧ Hid (LessK h now was F k) ∧ Own pieceC 3 wr w.heap.size 25 u F ∧ Below w.heap.size w wr) (fun _ v _ => now.length - (intOf v).toNat)
  case atStart => exact ⟨0, [], rfl, Nat.zero_le _, Lib.hid LessK.start, Own.nil, Below.refl _ _⟩
  case round =>
    obtain ⟨k, F, rfl, hk, HK, hO, hb⟩ := hrel
    have hzr := hb.size
    have hFl : F.length ≤ 100 := by have := HK.out.len (by omega); omega
    obtain ⟨AF, cF, rfl⟩ := hO.form
    by_cases hlt : k < now.length
    case neg =>
      obtain rfl : k = now.length := by omega
      have HF := Lib.hid (HK.out.fin HN.out HW.out (Nat.le_refl _))
      obtain ⟨A2, c2, e2, hP⟩ := own_pieces hO (fun x hx => by
        obtain ⟨q1, q2⟩ := HK.out.in_ x hx
        exact ⟨⟨by omega, by omega⟩, ⟨by omega, by omega⟩, ⟨by omega, by omega⟩⟩)
      obtain ⟨rfl, rfl⟩ : AF = A2 ∧ cF = c2 := by simpa using e2
      clear HK
      go_wp2_with fail
      go_ret
      exact ⟨AF, cF, F, HF, rfl, hP, hb⟩
    case pos =>
      obtain ⟨p, hp⟩ := get_lt hlt
      obtain ⟨b, off, rfl, hb0, x0, x1, x2⟩ := HA.out.get hp
      have x0 := (hb.cell (p := ⟨b, _, none⟩) hb0).trans x0
      have x1 := (hb.cell (p := ⟨b, _, none⟩) hb0).trans x1
      have x2 := (hb.cell (p := ⟨b, _, none⟩) hb0).trans x2
      have hpm := List.mem_of_getElem? hp
      have hpi := HN.out.in_ p hpm
      have hpl := HN.out.map.2 p hpm
      have HP := Lib.hid hp
      clear hp hpm
      go_wp2_with fail
      obtain ⟨g7, hg7⟩ : ∃ g7, g7 = wr.heap.size := ⟨_, rfl⟩
      have B7 : Blk ((wr.alloc (Obj.cells #[.int .i64 p.f, .int .i64 p.t, .int .i64 p.v] 25)).alloc (Obj.cells #[] 29)) g7 25 #[.int .i64 p.f, .int .i64 p.t, .int .i64 p.v] := by rw [hg7]; exact (Blk.new _ _ _).alloc _
      have hO2 := (hO.alloc (Obj.cells #[.int .i64 p.f, .int .i64 p.t, .int .i64 p.v] 25)).alloc (Obj.cells #[] 29)
      have hS0 : Own ivlC 2 ((wr.alloc (Obj.cells #[.int .i64 p.f, .int .i64 p.t, .int .i64 p.v] 25)).alloc (Obj.cells #[] 29)) w.heap.size 29 (.slice (some ⟨g7 + 1, 0, none⟩) 0 0) (sameOf p (was.take 0)) := by
        rw [hg7]
        exact Own.lit (enc := ivlC) (l := []) (by simp) (by omega) rfl rfl rfl (by decide)
      have hb2 := ext_alloc (ext_alloc hb (Obj.cells #[.int .i64 p.f, .int .i64 p.t, .int .i64 p.v] 25)) (Obj.cells #[] 29)
      have hne7 : some g7 ≠ (Value.slice AF F.length cF).ownBlock := hO.block_lt (by omega)
      have hg7w : w.heap.size ≤ g7 := by omega
      rw [← hg7]
      clear x0 x1 x2 hO hb hzr hg7
      go_loopw [8, 25] (fun u v wr => ∃ j : Nat, v = .int .i64 j ∧ j ≤ was.length ∧ Own ivlC 2 wr w.heap.size 29 u (sameOf p (was.take j)) ∧ Blk wr g7 25 #[.int .i64 p.f, .int .i64 p.t, .int .i64 p.v] ∧ Own pieceC 3 wr w.heap.size 25 (.slice AF F.length cF) F ∧ Below w.heap.size w wr) (fun _ v _ => was.length - (intOf v).toNat)
      case atStart => exact ⟨0, rfl, Nat.zero_le _, hS0, B7, hO2, hb2⟩
      case round =>
        clear B7 hO2 hS0 hb2
        obtain ⟨j, rfl, hjl, hS, B7, hO, hb⟩ := hrel
        have hzr := hb.size
        have hsl := sameOf_len p (was.take j)
        rw [List.length_take] at hsl
        obtain ⟨same, hsm⟩ : ∃ same, sameOf p (was.take j) = same := ⟨_, rfl⟩
        have HSM := Lib.hid hsm
        rw [hsm] at hS hsl
        clear hsm
        obtain ⟨AS, cS, rfl⟩ := hS.form
        have hcl : same.length + 1 ≤ 1000000 := by omega
        by_cases hltj : j < was.length
        case pos =>
          obtain ⟨q, hq⟩ := get_lt hltj
          obtain ⟨b', off', rfl, hb0', y0, y1, y2⟩ := HB.out.get hq
          have y0 := (hb.cell (p := ⟨b', _, none⟩) hb0').trans y0
          have y1 := (hb.cell (p := ⟨b', _, none⟩) hb0').trans y1
          have y2 := (hb.cell (p := ⟨b', _, none⟩) hb0').trans y2
          have HNX := Lib.hid (sameOf_snoc (p := p) hq)
          rw [HSM.out] at HNX
          obtain ⟨B7c, _, B7l⟩ := B7.facts
          have z0 : (wr.alloc (Obj.cells #[.int .i64 q.f, .int .i64 q.t, .int .i64 q.v] 25)).cell? ⟨g7, 0, none⟩ = some (.int .i64 p.f) := (B7.alloc _).cell 0
          have z1 : (wr.alloc (Obj.cells #[.int .i64 q.f, .int .i64 q.t, .int .i64 q.v] 25)).cell? ⟨g7, 1, none⟩ = some (.int .i64 p.t) := (B7.alloc _).cell 1
          have z2 : (wr.alloc (Obj.cells #[.int .i64 q.f, .int .i64 q.t, .int .i64 q.v] 25)).cell? ⟨g7, 2, none⟩ = some (.int .i64 p.v) := (B7.alloc _).cell 2
          clear hq
          by_cases hc1 : max p.f q.f < min p.t q.t
          case neg =>
            have d1 : decide (max p.f q.f < min p.t q.t) = false := by simpa using hc1
            have HE : Hid (sameOf p (was.take (j + 1)) = same) := Lib.hid (by rw [HNX.out, if_neg (fun h => hc1 h.1), List.append_nil])
            clear hc1
            go_wp2_with fail
            go_roundw
            case rel => exact ⟨j + 1, by go_num, by omega, by rw [HE.out]; exact (hS.alloc _).alloc _, (B7.alloc _).alloc _, (hO.alloc _).alloc _, ext_alloc (ext_alloc hb _) _⟩
            case measure => simp [intOf]; omega
          case pos =>
            have d1 : decide (max p.f q.f < min p.t q.t) = true := by simpa using hc1
            have B72 : Blk ((wr.alloc (Obj.cells #[.int .i64 q.f, .int .i64 q.t, .int .i64 q.v] 25)).alloc (Obj.cells #[.int .i64 (max p.f q.f), .int .i64 (min p.t q.t)] 29)) g7 25 #[.int .i64 p.f, .int .i64 p.t, .int .i64 p.v] := (B7.alloc _).alloc _
            have w2 := B72.cell 2
            by_cases hc2 : q.v ≤ p.v
            case neg =>
              have d2 : decide (p.v ≥ q.v) = false := by simp; omega
              have HE : Hid (sameOf p (was.take (j + 1)) = same) := Lib.hid (by rw [HNX.out, if_neg (fun h => hc2 h.2), List.append_nil])
              clear hc1 hc2
              go_wp2_with fail
              go_roundw
              case rel => exact ⟨j + 1, by go_num, by omega, by rw [HE.out]; exact (hS.alloc _).alloc _, B72, (hO.alloc _).alloc _, ext_alloc (ext_alloc hb _) _⟩
              case measure => simp [intOf]; omega
            case pos =>
              have d2 : decide (p.v ≥ q.v) = true := by simp; omega
              have HE : Hid (sameOf p (was.take (j + 1)) = same ++ [⟨max p.f q.f, min p.t q.t⟩]) := Lib.hid (by rw [HNX.out, if_pos ⟨hc1, hc2⟩])
              have hS2 := (hS.alloc (Obj.cells #[.int .i64 q.f, .int .i64 q.t, .int .i64 q.v] 25)).alloc (Obj.cells #[.int .i64 (max p.f q.f), .int .i64 (min p.t q.t)] 29)
              have hO2 := (hO.alloc (Obj.cells #[.int .i64 q.f, .int .i64 q.t, .int .i64 q.v] 25)).alloc (Obj.cells #[.int .i64 (max p.f q.f), .int .i64 (min p.t q.t)] 29)
              have hb2 := ext_alloc (ext_alloc hb (Obj.cells #[.int .i64 q.f, .int .i64 q.t, .int .i64 q.v] 25)) (Obj.cells #[.int .i64 (max p.f q.f), .int .i64 (min p.t q.t)] 29)
              have hz2' := hb2.size
              clear hc1 hc2
              go_wp2_with (at_builtin; refine wpList_append_lie (enc := ivlC) rfl (.tmp 52) (.tmp 54) 22 rfl w.heap.size 29 j0 _ 2 16 Try.underlying22 hj hy0 hy1 hy2 rfl (by decide) _ same ⟨max p.f q.f, min p.t q.t⟩ rfl hS2 #[.int .i64 (max p.f q.f), .int .i64 (min p.t q.t)] rfl (wr.heap.size + 1 + 1) (by simp) rfl rfl two_one hcl (by decide) hz2' ?_; intro gn cap w6 hown6 hbb hkp hgn; have B76 := hkp _ _ _ B72 (hS2.other B72 (by decide)); have hO6 : Own pieceC 3 w6 w.heap.size 25 (.slice AF F.length cF) F := hO2.keep (fun b cs h => hkp _ _ _ h (hS2.other h (by decide))))
              go_roundw
              case rel => exact ⟨j + 1, by go_num, by omega, by rw [HE.out]; exact hown6, B76, hO6, hb2.trans hbb⟩
              case measure => simp [intOf]; omega
        case neg =>
          have HE : Hid (same = sameOf p was) := Lib.hid (by rw [← HSM.out, List.take_of_length_le (by omega)])
          have hsi : ∀ x, x ∈ same → 0 ≤ x.f ∧ x.f < x.t ∧ x.t ≤ h := by rw [HE.out]; exact sameOf_in hpi.1
          obtain ⟨A2, c2, e2, hI⟩ := own_ivls hS (fun x hx => by have := hsi x hx; exact ⟨⟨by omega, by omega⟩, by omega, by omega⟩)
          obtain ⟨rfl, rfl⟩ : AS = A2 ∧ cS = c2 := by simpa using e2
          obtain ⟨z0, _, _⟩ := B7.facts
          have hNo := ivlNorm_any AS cS same wr hI.toIvlsAt
          clear hsi e2
          go_wp2_with fail
          refine hNo.mono ?_
          rintro e w3 ⟨er, nm, A3, c3, HNM, rfl, hI3, hb3⟩
          have B73 := B7.ext hb3
          have hO3 := hO.ext hb3
          have hb3' := ext_trans hb hb3
          obtain ⟨z0, _, _⟩ := B73.facts
          clear hNo hb3
          go_wp2_with fail
          have hIp : IvlsAt (w3.alloc (Obj.cells #[.int .i64 p.f, .int .i64 p.t] 29)) (some ⟨w3.heap.size, 0, none⟩) 1 [⟨p.f, p.t⟩] := by
            have B := Blk.new w3 29 #[.int .i64 p.f, .int .i64 p.t]
            refine ⟨Nat.le_refl _, by decide, w3.heap.size, 0, fun i x hx => ?_⟩
            match i, hx with
            | 0, hx =>
              obtain rfl : (⟨p.f, p.t⟩ : IvlD) = x := by simpa using hx
              exact ⟨rfl, B.lt, ⟨by unfold cellIs; rw [B.cell]; rfl, by unfold cellIs; rw [B.cell]; rfl⟩, ⟨by simp only; omega, by simp only; omega⟩, by simp only; omega, by simp only; omega⟩
            | i + 1, hx => simp at hx
          refine (minus_any _ _ _ _ [⟨p.f, p.t⟩] nm _ hIp (hI3.toIvlsAt.ext (ext_alloc (Below.refl _ _) _))).mono ?_
          rintro e w4 ⟨er4, rest, A4, c4, HMM, rfl, hI4, hb4⟩
          have B74 := (B73.alloc _).ext hb4
          have hO4 := (hO3.alloc _).ext hb4
          have hb4' := ext_trans (ext_alloc hb3' _) hb4
          have HRS : Hid (RestIs p was rest) := Lib.hid (by
            have hn := HNM.out
            rw [HE.out] at hn
            exact rest_of (h := h) ⟨hpi.1.1, hpl, hpi.1.2⟩ h1 h100 (HW.out.len (by omega)) hn HMM.out)
          have hrl : rest.length ≤ 100 := by have := rest_len HRS.out ⟨hpi.1.1, hpl, hpi.1.2⟩; omega
          have hR4 : Own ivlC 2 w4 w.heap.size 29 (.slice A4 rest.length c4) rest := hI4.own.since (by simp; have := hb3'.size; omega)
          clear hI4 hIp hI3 hI hS B7 hO hb4 hb3' hb hzr z0 hO3 B73
          go_wp2_with fail
          go_loopw [5, 75] (fun u v wr => ∃ i : Nat, v = .int .i64 i ∧ i ≤ rest.length ∧ Own pieceC 3 wr w.heap.size 25 u (F ++ (rest.take i).map (pieceAt p.v)) ∧ Blk wr g7 25 #[.int .i64 p.f, .int .i64 p.t, .int .i64 p.v] ∧ some g7 ≠ u.ownBlock ∧ Own ivlC 2 wr w.heap.size 29 (.slice A4 rest.length c4) rest ∧ Below w.heap.size w wr) (fun _ v _ => rest.length - (intOf v).toNat)
          case atStart => exact ⟨0, rfl, Nat.zero_le _, by simpa using hO4, B74, hne7, hR4, hb4'⟩
          case round =>
            clear hO4 B74 hR4 hb4'
            obtain ⟨i, rfl, hil, hO, B7, hne, hR, hb⟩ := hrel
            have hzr := hb.size
            obtain ⟨G, hG⟩ : ∃ G, F ++ (rest.take i).map (pieceAt p.v) = G := ⟨_, rfl⟩
            have HG := Lib.hid hG
            have hGl : G.length + 1 ≤ 1000000 := by rw [← hG, List.length_append, List.length_map, List.length_take]; omega
            rw [hG] at hO
            clear hG
            obtain ⟨AG, cG, rfl⟩ := hO.form
            by_cases hlti : i < rest.length
            case neg =>
              have HK2 : Hid (LessK h now was G (k + 1)) := Lib.hid (by
                have := HK.out.next HN.out HW.out HP.out HRS.out
                rw [← HG.out, List.take_of_length_le (by omega)]
                exact this)
              go_wp2_with fail
              go_roundw
              case rel => exact ⟨k + 1, G, by go_num, by omega, HK2, hO, hb⟩
              case measure => simp [intOf]; omega
            case pos =>
              obtain ⟨x, hx⟩ := get_lt hlti
              have hRn : ∃ g, A4 = some ⟨g, 0, none⟩ := by
                rcases hR.2 with ⟨_, h0⟩ | ⟨g, cap, cur, hv, _⟩
                · omega
                · simp only [Value.slice.injEq] at hv; exact ⟨g, hv.1⟩
              obtain ⟨g4, rfl⟩ := hRn
              obtain ⟨_, hg4, _, _, cs4, B4, _, hrow⟩ := hR.cells ivlC_len3
              have r0 : cs4[i * 2]? = some (.int .i64 x.f) := by have := hrow i x hx 0 (by decide); simpa [ivlC] using this
              have r1 : cs4[i * 2 + 1]? = some (.int .i64 x.t) := by have := hrow i x hx 1 (by decide); simpa [ivlC] using this
              have HXI := Lib.hid (rest_in HRS.out x (List.mem_of_getElem? hx))
              have HN2 : Hid (F ++ (rest.take (i + 1)).map (pieceAt p.v) = G ++ [⟨x.f, x.t, p.v⟩]) := Lib.hid (by
                rw [← HG.out, List.take_add_one, hx]
                simp [pieceAt])
              obtain ⟨b1, b2, b3⟩ := B4.facts
              have B72 := B7.alloc (Obj.cells #[.int .i64 x.f, .int .i64 x.t] 29)
              obtain ⟨z1, z2, z3⟩ := B72.facts
              have hO2 := hO.alloc (Obj.cells #[.int .i64 x.f, .int .i64 x.t] 29)
              have hR2 := hR.alloc (Obj.cells #[.int .i64 x.f, .int .i64 x.t] 29)
              have hb2 := ext_alloc hb (Obj.cells #[.int .i64 x.f, .int .i64 x.t] 29)
              have hz2' := hb2.size
              have hgw : g7 < wr.heap.size := B7.lt
              clear hx hrow
              go_wp2_with (at_builtin; refine wpList_append_lie (enc := pieceC) rfl (.tmp 79) (.tmp 87) 23 rfl w.heap.size 25 i0 _ 3 24 Try.underlying23 hi hz0 hz1 hz2 rfl (by decide) _ G ⟨x.f, x.t, p.v⟩ rfl hO2 #[.int .i64 x.f, .int .i64 x.t, .int .i64 p.v] rfl (wr.heap.size + 1) (by simp) rfl rfl three_ints hGl (by decide) hz2' ?_; intro gn cap w6 hown6 hbb hkp hgn; have B76 := hkp _ _ _ B72 hne; have hR6 : Own ivlC 2 w6 w.heap.size 29 (.slice (some ⟨g4, 0, none⟩) rest.length c4) rest := hR2.keep (fun b cs h => hkp _ _ _ h (hO2.other h (by decide))))
              go_roundw
              case rel =>
                refine ⟨i + 1, by go_num, by omega, by rw [HN2.out]; exact hown6, B76, ?_, hR6, hb2.trans hbb⟩
                intro e9
                simp only [Value.ownBlock] at e9
                obtain rfl : g7 = gn := Option.some.inj e9
                rcases hgn with h9 | h9
                · exact hne h9.symm
                · simp at h9; omega
              case measure => simp [intOf]; omega
end Go.Proofs.Ytdpibehpmghghaa
