/- One text: BspTake. -/
import Derived.BigRegion
import Derived.Test.YtdpibehpmghghaaGreatBd3af1feae97
import Derived.Test.YtdpibehpmghghaaGreatBdf454dccc8d
import Derived.Test.YtdpibehpmghghaaGreatBde6a0dff157
import Derived.Test.YtdpibehpmghghaaGreatBd8dbe371942
import Derived.Test.YtdpibehpmghghaaGreatBd2ead63bc01
/- The walk of (*bsp.vertex).take (printed by gentake.py). -/
namespace Go.Proofs.YtdpibehpmghghaaGreat
open Go.RowKit

theorem set_same {cs : Array Value} {o : Nat} {v : Value} (h : cs[o]? = some v) : cs.setIfInBounds o v = cs := by
  apply Array.ext_getElem?
  intro i
  by_cases e : o = i
  · subst e
    rw [Array.getElem?_setIfInBounds_self_of_lt (Array.getElem?_eq_some_iff.1 h).1, h]
  · rw [Array.getElem?_setIfInBounds_ne e]
theorem set_twice {cs : Array Value} {o : Nat} {u v : Value} : (cs.setIfInBounds o u).setIfInBounds o v = cs.setIfInBounds o v := by
  apply Array.ext_getElem?
  intro i
  by_cases e : o = i
  · subst e
    by_cases h : o < cs.size
    · rw [Array.getElem?_setIfInBounds_self_of_lt (by simpa using h), Array.getElem?_setIfInBounds_self_of_lt h]
    · rw [Array.getElem?_eq_none (by simpa using h), Array.getElem?_eq_none (by simpa using h)]
  · rw [Array.getElem?_setIfInBounds_ne e, Array.getElem?_setIfInBounds_ne e, Array.getElem?_setIfInBounds_ne e]
theorem take_more {l : List PieceD} {k n : Nat} : l.take (k + n) = l.take k ++ (l.drop k).take n := List.take_add
/-- The list is the old one, or lies in memory of its own. -/
def NewOr (b0 : Nat) (w : World) (A : Option Addr) (c : Nat) (S : List PieceD) (A' : Option Addr) (c' : Nat) (S' : List PieceD) : Prop := (A' = A ∧ c' = c ∧ S' = S) ∨ Own pieceC 3 w b0 53 (.slice A' S'.length c') S'
theorem NewOr.only {b0 g : Nat} {w w' : World} {A A' : Option Addr} {c c' : Nat} {S S' : List PieceD} {t : TypeId} {cs : Array Value} (h : NewOr b0 w A c S A' c' S') (hO : Only g w w') (hB : Blk w g t cs) (ht : 53 ≠ t) : NewOr b0 w' A c S A' c' S' := h.imp id fun k => hO.own hB ht k
def lenOf (v : Value) : Nat := match v with | .slice _ n _ => n | _ => 0
def TakeOut (h : Int) (gv off : Nat) (cs : Array Value) (A : Option Addr) (c : Nat) (S msgs : List PieceD) (w : World) (e : Ending) (w' : World) : Prop := e = .returned (.tuple #[]) ∧ ∃ (A' : Option Addr) (c' : Nat) (S' : List PieceD) (A'' : Option Addr) (c'' : Nat) (F : List PieceD),
  Hid (Lies h S' ∧ (∀ t, val S' t = minAt msgs t (val S t)) ∧ FreshIs h S' (val S) F) ∧ Blk w' gv 112 ((cs.setIfInBounds off (.slice A' S'.length c')).setIfInBounds (off + 1) (.slice A'' F.length c'')) ∧
  PiecesAt w' A' c' S' ∧ NewOr w.heap.size w' A c S A' c' S' ∧ PiecesNew w.heap.size w' A'' c'' F ∧ Only gv w w'
set_option maxRecDepth 100000 in
set_option maxHeartbeats 4000000 in
theorem take_any (h : Int) (gv off : Nat) (cs : Array Value) (A B : Option Addr) (c d : Nat) (S msgs : List PieceD) (vf : Value) (w : World) (hV : Blk w gv 112 cs) (hsl : ∀ (i : Nat) u, cs[i]? = some u → ∃ A n c, u = Value.slice A n c)
    (h0 : cs[off]? = some (.slice A S.length c)) (h1 : cs[off + 1]? = some vf) (hS : PiecesAt w A c S) (hM : PiecesAt w B d msgs) (hL : Lies h S) (hm : ∀ x, x ∈ msgs → MsgIn h x) (hh1 : 1 ≤ h) (hh2 : h ≤ 100) (hml : msgs.length ≤ 100000) :
    Calls Tryz.prog 88 #[.pointer (some ⟨gv, off, none⟩), .slice B msgs.length d] w (TakeOut h gv off cs A c S msgs w) := by
  have HSL := Lib.hid (show Slices w gv from ⟨_, cs, hV, hsl⟩)
  have HL := Lib.hid hL; have HMM := Lib.hid hm
  have hof : off + 1 < cs.size := (Array.getElem?_eq_some_iff.1 h1).1
  have hB0 : Blk w gv 112 (cs.setIfInBounds off (.slice A S.length c)) := by rw [set_same h0]; exact hV
  have hgw := hV.lt
  obtain ⟨c1, c2, c3⟩ := hV.facts
  have hc0 := (hV.cell off).trans h0
  have hdl := hM.lc
  have hdm := hM.cm
  unfold maxLen at hdm
  have HM := Lib.hid hM; have HS := Lib.hid hS
  clear hL hm hsl hV h1 hM hS
  go_enter Tryz.func88, Tryz.ntmps88
  go_wp2_with fail
  clear c1 c2 c3 hc0 h0
  go_loopw [1] (fun x wr => ∃ (k r : Nat) (Ax : Option Addr) (cx : Nat) (A' : Option Addr) (c' : Nat) (S' : List PieceD), x = .slice Ax r cx ∧ k + r = msgs.length ∧ (r ≠ 0 → ∃ gm om, Ax = some ⟨gm, om, none⟩ ∧ PiecesAt wr Ax cx (msgs.drop k)) ∧ r ≤ cx ∧ cx ≤ 9223372036854775807 ∧
    Blk wr gv 112 (cs.setIfInBounds off (.slice A' S'.length c')) ∧ PiecesAt wr A' c' S' ∧ NewOr w.heap.size wr A c S A' c' S' ∧ Hid (Lies h S' ∧ ∀ t, val S' t = minAt (msgs.take k) t (val S t)) ∧ Only gv w wr) (fun x _ => lenOf x)
  case atStart =>
    refine ⟨0, msgs.length, B, d, A, c, S, rfl, by omega, fun hr => ?_, hdl, hdm, hB0, HS.out, .inl ⟨rfl, rfl, rfl⟩, Lib.hid ⟨HL.out, fun t => rfl⟩, .refl w⟩
    obtain ⟨x, hx⟩ := get_lt (show 0 < msgs.length by omega)
    obtain ⟨b, o, rfl, _⟩ := HM.out.get hx
    exact ⟨b, o, rfl, HM.out⟩
  case round =>
    clear hB0
    obtain ⟨k, r, Ax, cx, A', c', S', rfl, hkr, hAx, hrc, hcx, BV, hS, hN, HI, hO⟩ := hrel
    have hSl := hO.slices HSL.out
    have hzz := hO.size
    have hcell : wr.cell? ⟨gv, off, none⟩ = some (.slice A' S'.length c') := (BV.cell off).trans (Array.getElem?_setIfInBounds_self_of_lt (by omega))
    have hfz : wr.frozen? ⟨gv, off + 1, none⟩ = false := BV.frozen _
    have hgr := BV.lt
    by_cases hr0 : r = 0
    case pos =>
      subst hr0
      have HD : Hid (Lies h S' ∧ ∀ t, val S' t = minAt msgs t (val S t)) := Lib.hid (by
        have h2 := HI.out.2
        rw [List.take_of_length_le (by omega)] at h2
        exact ⟨HI.out.1, h2⟩)
      have hwas := hO.pieces HSL.out HS.out
      have hle := bspLess_any h A' A c' c S' S wr hS hwas HI.out.1 HL.out hh1 hh2
      clear HI hAx hfz
      go_wp2_with fail
      refine hle.mono ?_
      rintro e w5 ⟨A5, c5, F, HF, rfl, hF5, hb5⟩
      have BV5 := BV.ext hb5
      obtain ⟨y1, y2, y3⟩ := BV5.facts
      have hO5 := hO.ext hb5
      have hsz5 : (cs.setIfInBounds off (.slice A' S'.length c'))[off + 1]?.isSome = true := by
        rw [Array.getElem?_setIfInBounds_ne (by omega)]
        simp [hof]
      obtain ⟨uu, huu⟩ := Option.isSome_iff_exists.1 hsz5
      have hcell5 := (BV5.cell (off + 1)).trans huu
      clear hle hcell hsz5
      go_wp2_with fail
      refine ⟨rfl, .tuple #[], by simp [results, Tryz.results88], ?_⟩
      have hsl5 := hO5.slices HSL.out
      exact ⟨rfl, A', c', S', A5, c5, F, Lib.hid ⟨HD.out.1, HD.out.2, HF.out⟩, BV5.set_ (off + 1) (.slice A5 F.length c5), (hS.ext hb5).put hsl5, (hN.only (.of_below hb5) BV (by decide)).only (.put (off + 1) A5 F.length c5 (.refl w5)) BV5 (by decide),
        ((hF5.since (by omega)) |> fun hq => Only.new (.put (off + 1) A5 F.length c5 (.refl w5)) hsl5 BV5 (by decide) hq), .put (off + 1) A5 F.length c5 hO5⟩
    case neg =>
      obtain ⟨gm, om, rfl, hMk⟩ := hAx hr0
      obtain ⟨nb, hnb⟩ : ∃ nb, min r 20 = nb := ⟨_, rfl⟩
      obtain ⟨rr, rfl⟩ : ∃ rr, r = nb + rr := ⟨r - nb, by omega⟩
      obtain ⟨cr, rfl⟩ : ∃ cr, cx = nb + cr := ⟨cx - nb, by omega⟩
      have hnb0 : 0 < nb := by omega
      have hmin : min ((nb : Int) + (rr : Int)) 20 = (nb : Int) := by omega
      have hnb20 : nb ≤ 20 := by omega
      have hd0 : decide (((nb + rr : Nat) : Int) > 0) = true := by simp; omega
      obtain ⟨batch, hbt⟩ : ∃ batch, (msgs.drop k).take nb = batch := ⟨_, rfl⟩
      have hbl : batch.length = nb := by rw [← hbt, List.length_take, List.length_drop]; omega
      have hMb : PiecesAt wr (some ⟨gm, om, none⟩) (nb + cr) batch := by rw [← hbt]; exact hMk.taken nb
      have HBI : Hid (∀ x, x ∈ batch → MsgIn h x) := Lib.hid fun x hx => by rw [← hbt] at hx; exact HMM.out x (List.mem_of_mem_drop (List.mem_of_mem_take hx))
      have HMK := Lib.hid hMk
      have HBT := Lib.hid hbt
      have hcl := warpCellsP_any A' (some ⟨gm, om, none⟩) c' (nb + cr) S' batch 1 wr hS hMb
      rw [hbl] at hcl
      have HCL := Lib.hid hcl
      have HBL := Lib.hid hbl
      have HS0 := Lib.hid hS
      have HN0 := Lib.hid hN
      have HMB := Lib.hid hMb
      have HN1 := Lib.hid (NewOr.only HN0.out (.of_below (below_drew (Below.refl wr.heap.size wr))) BV (by decide))
      clear hcl hMk hMb hbt hbl hnb hAx hr0 hS hN HCL
      go_wp2_with fail
      obtain ⟨S0, hSS⟩ : ∃ S0 : World → Prop, Hid (S0 = fun w' => w'.cell? ⟨gv, off, none⟩ = some (.slice A' S'.length c')) := ⟨_, Lib.hid rfl⟩
      have BV0 := BV.drew
      have hO0 : Only gv w wr.drew := hO.ext (below_drew (Below.refl _ _))
      have hcl := warpCellsP_any A' (some ⟨gm, om, none⟩) c' (nb + cr) S' batch 1 wr.drew (HS0.out.ext (below_drew (Below.refl _ _))) (HMB.out.ext (below_drew (Below.refl _ _)))
      rw [HBL.out] at hcl
      have hS0 : S0 wr.drew := by rw [hSS.out]; exact hcell
      clear hcell BV hO
      refine WpN.begin (S := S0) 12 (by kernel_rfl) ?_
      refine WpN.takeD (i := 0) (v := ?_) rfl rfl (by kernel_rfl) (fun _ _ _ h => h) (Or.inl ⟨by rfl, ?_⟩) (by assumption) ?_
      rotate_left
      · intro w hSw; rw [hSS.out] at hSw; have sw0 := hSw; clear hSw; go_simp; try with_reducible rfl
      try simp only [Act.put, List.setIfInBounds_toArray, List.set_cons_zero, List.set_cons_succ]
      refine WpN.takeD (i := 1) (v := ?_) rfl rfl (by kernel_rfl) (fun _ _ _ h => h) (Or.inl ⟨by rfl, ?_⟩) (by assumption) ?_
      rotate_left
      · intro w hSw; rw [hSS.out] at hSw; have sw0 := hSw; clear hSw; go_simp; try with_reducible rfl
      try simp only [Act.put, List.setIfInBounds_toArray, List.set_cons_zero, List.set_cons_succ]
      refine WpN.takeD (i := 2) (v := ?_) rfl rfl (by kernel_rfl) (fun _ _ _ h => h) (Or.inl ⟨by rfl, ?_⟩) (by assumption) ?_
      rotate_left
      · intro w hSw; rw [hSS.out] at hSw; have sw0 := hSw; clear hSw; go_simp; try with_reducible rfl
      try simp only [Act.put, List.setIfInBounds_toArray, List.set_cons_zero, List.set_cons_succ]
      refine WpN.takeD (i := 3) (v := ?_) rfl rfl (by kernel_rfl) (fun _ _ _ h => h) (Or.inl ⟨by rfl, ?_⟩) (by assumption) ?_
      rotate_left
      · intro w hSw; rw [hSS.out] at hSw; have sw0 := hSw; clear hSw; go_simp; try with_reducible rfl
      try simp only [Act.put, List.setIfInBounds_toArray, List.set_cons_zero, List.set_cons_succ]
      refine WpN.takeD (i := 4) (v := ?_) rfl rfl (by kernel_rfl) (fun _ _ _ h => h) (Or.inl ⟨by rfl, ?_⟩) (by assumption) ?_
      rotate_left
      · intro w hSw; rw [hSS.out] at hSw; have sw0 := hSw; clear hSw; go_simp; try with_reducible rfl
      try simp only [Act.put, List.setIfInBounds_toArray, List.set_cons_zero, List.set_cons_succ]
      refine WpN.takeD (i := 5) (v := ?_) rfl rfl (by kernel_rfl) (fun _ _ _ h => h) (Or.inl ⟨by rfl, ?_⟩) (by assumption) ?_
      rotate_left
      · intro w hSw; rw [hSS.out] at hSw; have sw0 := hSw; clear hSw; go_simp; try with_reducible rfl
      try simp only [Act.put, List.setIfInBounds_toArray, List.set_cons_zero, List.set_cons_succ]
      refine WpN.takeD (i := 6) (v := ?_) rfl rfl (by kernel_rfl) (fun _ _ _ h => h) (Or.inl ⟨by rfl, ?_⟩) (by assumption) ?_
      rotate_left
      · intro w hSw; rw [hSS.out] at hSw; have sw0 := hSw; clear hSw; go_simp; rw [if_pos (by omega)]; try with_reducible rfl
      try simp only [Act.put, List.setIfInBounds_toArray, List.set_cons_zero, List.set_cons_succ]
      refine WpN.one (i := 7) rfl (by kernel_rfl) fun K hK => ?_
      go_wp2_with fail
      refine hcl.mono ?_
      rintro e w2 ⟨er, cl, Ac, cc, HCS, rfl, hCA, hb2⟩
      have BV2 := BV0.ext hb2
      have hS2 : S0 w2 := by rw [hSS.out]; exact (BV2.cell off).trans (Array.getElem?_setIfInBounds_self_of_lt (by omega))
      refine hK.out _ _ ⟨fun _ => hS2, ?_⟩
      clear hK K hcl hS0
      try simp only [Act.put, List.setIfInBounds_toArray, List.set_cons_zero, List.set_cons_succ]
      refine WpN.takeD (i := 8) (v := ?_) rfl rfl (by kernel_rfl) (fun _ _ _ h => h) (Or.inl ⟨by rfl, ?_⟩) (by assumption) ?_
      rotate_left
      · intro w hSw; rw [hSS.out] at hSw; have sw0 := hSw; clear hSw; go_simp; try with_reducible rfl
      try simp only [Act.put, List.setIfInBounds_toArray, List.set_cons_zero, List.set_cons_succ]
      refine WpN.takeD (i := 9) (v := ?_) rfl rfl (by kernel_rfl) (fun _ _ _ h => h) (Or.inl ⟨by rfl, ?_⟩) (by assumption) ?_
      rotate_left
      · intro w hSw; rw [hSS.out] at hSw; have sw0 := hSw; clear hSw; go_simp; try with_reducible rfl
      try simp only [Act.put, List.setIfInBounds_toArray, List.set_cons_zero, List.set_cons_succ]
      refine WpN.takeD (i := 10) (v := ?_) rfl rfl (by kernel_rfl) (fun _ _ _ h => h) (Or.inl ⟨by rfl, ?_⟩) (by assumption) ?_
      rotate_left
      · intro w hSw; rw [hSS.out] at hSw; have sw0 := hSw; clear hSw; go_simp; try with_reducible rfl
      try simp only [Act.put, List.setIfInBounds_toArray, List.set_cons_zero, List.set_cons_succ]
      refine WpN.takeD (i := 11) (v := ?_) rfl rfl (by kernel_rfl) (fun _ _ _ h => h) (Or.inl ⟨by rfl, ?_⟩) (by assumption) ?_
      rotate_left
      · intro w hSw; rw [hSS.out] at hSw; have sw0 := hSw; clear hSw; go_simp; try with_reducible rfl
      try simp only [Act.put, List.setIfInBounds_toArray, List.set_cons_zero, List.set_cons_succ]
      refine WpN.one (i := 12) rfl (by kernel_rfl) fun K hK => ?_
      go_wp2_with fail
      refine hK.out _ _ ⟨fun h => by omega, ?_⟩
      refine WpN.done (by kernel_rfl) ?_ _
      clear hK K hSS hS2 S0
      obtain ⟨her, hcl100, hcin⟩ := cells_zero (batch := batch) HI.out.1 hh1 hh2 (by rw [HBL.out]; omega) HBI.out HCS.out
      subst her
      have HCIN := Lib.hid hcin
      clear hcin
      have hO2 := hO0.ext hb2
      have hSz2 := HS0.out.ext (ext_trans (below_drew (Below.refl _ _)) hb2)
      have hN2 := HN1.out.only (.of_below hb2) BV0 (by decide)
      have hSl2 := hO2.slices HSL.out
      have HMK2 := Lib.hid (HMK.out.ext (ext_trans (below_drew (Below.refl _ _)) hb2))
      have hclm : cl.length ≤ cc := hCA.lc
      have hccm := hCA.cm
      clear hSl hzz hfz hgr hO0 hb2 BV0 HS0 HN0 HMK HMB
      go_wp2_with fail
      go_loopw [33] (fun v wt => ∃ (j : Nat) (A4 : Option Addr) (c4 : Nat) (M : List PieceD), j ≤ cl.length ∧ v = .int .i64 j ∧ Blk wt gv 112 (cs.setIfInBounds off (.slice A4 M.length c4)) ∧ PiecesAt wt A4 c4 M ∧ NewOr w.heap.size wt A c S A4 c4 M ∧
        Hid (Lies h M ∧ ∀ t, atM M t = cellsF (atM S') (cl.take j) t) ∧ CellsAt wt Ac cc cl ∧ Only gv w2 wt) (fun v _ => cl.length - (intOf v).toNat)
      case atStart => exact ⟨0, A', c', S', by omega, rfl, BV2, hSz2, hN2, Lib.hid ⟨HI.out.1, fun t => rfl⟩, hCA, .refl w2⟩
      case round =>
        have HSL2 := Lib.hid hSl2
        clear BV2 hSz2 hN2 hCA hSl2
        obtain ⟨j, A4, c4, M, hj, rfl, BV, hM4, hN4, HI4, hC4, hO4⟩ := hrel
        have hzt := hO4.size
        have HSL4 := Lib.hid (hO4.slices HSL2.out)
        by_cases hlt : j < cl.length
        case neg =>
          obtain rfl : j = cl.length := by omega
          have HD : Hid (Lies h M ∧ ∀ t, val M t = minAt (msgs.take (k + nb)) t (val S t)) := Lib.hid ⟨HI4.out.1, fun t => by
            have h1 := HI4.out.2
            rw [List.take_length] at h1
            rw [batch_done (batch := batch) HI.out.1 HBI.out HCS.out h1 t, HI.out.2 t, take_more, minAt_append, HBT.out]⟩
          have hMr : PiecesAt wr (some ⟨gm, om + nb * 3, none⟩) cr (msgs.drop (k + nb)) := by
            have h2 := (hO4.pieces HSL2.out HMK2.out).drop (k := nb) (by rw [List.length_drop]; omega)
            rw [List.drop_drop] at h2
            have e : nb + cr - nb = cr := by omega
            rw [e] at h2
            exact h2
          have hnl := hMr.lc
          have hrl : msgs.length - (k + nb) = rr := by omega
          have hO9 := hO2.trans hO4
          clear hC4 hO4
          by_cases hcr : cr = 0
          case pos =>
            subst hcr
            have hrr0 : rr = 0 := by omega
            subst hrr0
            go_wp2_with fail
            go_roundw
            case rel => exact ⟨k + nb, 0, some ⟨gm, om, none⟩, 0, A4, c4, M, rfl, by omega, fun h => absurd rfl h, Nat.le_refl _, by omega, BV, hM4, hN4, HD, hO9⟩
            case measure => simp [lenOf]; omega
          case neg =>
            have hcrp : 0 < cr := by omega
            go_wp2_with fail
            go_roundw
            case rel => exact ⟨k + nb, rr, some ⟨gm, om + nb * 3, none⟩, cr, A4, c4, M, rfl, by omega, fun _ => ⟨gm, om + nb * 3, rfl, hMr⟩, by omega, by omega, BV, hM4, hN4, HD, hO9⟩
            case measure => simp [lenOf]; omega
        case pos =>
          obtain ⟨x, hx⟩ := get_lt hlt
          have HX := Lib.hid hx
          have HIX := Lib.hid (HCIN.out x (List.mem_of_getElem? hx))
          obtain ⟨b, o5, rfl, hb0, x0, x1, x2, x3, x4⟩ := hC4.get hx
          clear hx
          have hcv : cellsF (atM S') (cl.take (j + 1)) = cellStep (cellsF (atM S') (cl.take j)) x := cellsF_snoc HX.out
          have HCV := Lib.hid hcv
          clear hcv
          cases hhas : x.has with
          | false =>
            rw [hhas] at x3
            have HPB : Hid (putB x = true) := Lib.hid (by simp [putB, hhas])
            clear hhas
            go_wp2_with fail
            have hal : Below wr.heap.size wr (wr.alloc (Obj.cells #[.int .i64 x.f, .int .i64 x.t, .int .i64 x.s, .bool false, .int .i64 x.v] 185)).drew := below_drew (ext_alloc (Below.refl _ _) _)
            have BC := (Blk.new wr 185 #[.int .i64 x.f, .int .i64 x.t, .int .i64 x.s, .bool false, .int .i64 x.v]).drew
            have BVd := BV.ext hal
            obtain ⟨S0, hSS⟩ : ∃ S0 : World → Prop, Hid (S0 = fun w' => w'.cell? ⟨gv, off, none⟩ = some (.slice A4 M.length c4) ∧ w'.cell? ⟨wr.heap.size, 0, none⟩ = some (.int .i64 x.f) ∧ w'.cell? ⟨wr.heap.size, 1, none⟩ = some (.int .i64 x.t) ∧ w'.cell? ⟨wr.heap.size, 4, none⟩ = some (.int .i64 x.v)) := ⟨_, Lib.hid rfl⟩
            have hS0 : S0 (wr.alloc (Obj.cells #[.int .i64 x.f, .int .i64 x.t, .int .i64 x.s, .bool false, .int .i64 x.v] 185)).drew := by
              rw [hSS.out]
              exact ⟨(BVd.cell off).trans (Array.getElem?_setIfInBounds_self_of_lt (by omega)), by rw [BC.cell]; rfl, by rw [BC.cell]; rfl, by rw [BC.cell]; rfl⟩
            have hput := imapPut_any A4 c4 M ⟨x.f, x.t, x.v⟩ _ (hM4.ext hal)
            have hC6 := hC4.ext hal
            have hO6 := hO4.ext hal
            clear x0 x1 x2 x3 x4 hM4 hN4 hC4 hO4
            refine WpE.begin (S := S0) 18 (by kernel_rfl) ?_
            refine WpE.takeD (i := 0) (v := ?_) rfl rfl (by kernel_rfl) (fun _ _ _ h => h) (Or.inl ⟨by rfl, ?_⟩) (by assumption) ?_
            rotate_left
            · intro w hSw; rw [hSS.out] at hSw; obtain ⟨sw0, sw1, sw2, sw3⟩ := hSw; go_simp; try with_reducible rfl
            try simp only [Act.put, List.setIfInBounds_toArray, List.set_cons_zero, List.set_cons_succ]
            refine WpE.takeD (i := 1) (v := ?_) rfl rfl (by kernel_rfl) (fun _ _ _ h => h) (Or.inl ⟨by rfl, ?_⟩) (by assumption) ?_
            rotate_left
            · intro w hSw; rw [hSS.out] at hSw; obtain ⟨sw0, sw1, sw2, sw3⟩ := hSw; go_simp; try with_reducible rfl
            try simp only [Act.put, List.setIfInBounds_toArray, List.set_cons_zero, List.set_cons_succ]
            refine WpE.takeD (i := 2) (v := ?_) rfl rfl (by kernel_rfl) (fun _ _ _ h => h) (Or.inl ⟨by rfl, ?_⟩) (by assumption) ?_
            rotate_left
            · intro w hSw; rw [hSS.out] at hSw; obtain ⟨sw0, sw1, sw2, sw3⟩ := hSw; go_simp; try with_reducible rfl
            try simp only [Act.put, List.setIfInBounds_toArray, List.set_cons_zero, List.set_cons_succ]
            refine WpE.takeD (i := 3) (v := ?_) rfl rfl (by kernel_rfl) (fun _ _ _ h => h) (Or.inl ⟨by rfl, ?_⟩) (by assumption) ?_
            rotate_left
            · intro w hSw; rw [hSS.out] at hSw; obtain ⟨sw0, sw1, sw2, sw3⟩ := hSw; go_simp; try with_reducible rfl
            try simp only [Act.put, List.setIfInBounds_toArray, List.set_cons_zero, List.set_cons_succ]
            refine WpE.takeD (i := 4) (v := ?_) rfl rfl (by kernel_rfl) (fun _ _ _ h => h) (Or.inl ⟨by rfl, ?_⟩) (by assumption) ?_
            rotate_left
            · intro w hSw; rw [hSS.out] at hSw; obtain ⟨sw0, sw1, sw2, sw3⟩ := hSw; go_simp; try with_reducible rfl
            try simp only [Act.put, List.setIfInBounds_toArray, List.set_cons_zero, List.set_cons_succ]
            refine WpE.takeD (i := 5) (v := ?_) rfl rfl (by kernel_rfl) (fun _ _ _ h => h) (Or.inl ⟨by rfl, ?_⟩) (by assumption) ?_
            rotate_left
            · intro w hSw; rw [hSS.out] at hSw; obtain ⟨sw0, sw1, sw2, sw3⟩ := hSw; go_simp; try with_reducible rfl
            try simp only [Act.put, List.setIfInBounds_toArray, List.set_cons_zero, List.set_cons_succ]
            refine WpE.takeD (i := 6) (v := ?_) rfl rfl (by kernel_rfl) (fun _ _ _ h => h) (Or.inl ⟨by rfl, ?_⟩) (by assumption) ?_
            rotate_left
            · intro w hSw; rw [hSS.out] at hSw; obtain ⟨sw0, sw1, sw2, sw3⟩ := hSw; go_simp; try with_reducible rfl
            try simp only [Act.put, List.setIfInBounds_toArray, List.set_cons_zero, List.set_cons_succ]
            refine WpE.takeD (i := 7) (v := ?_) rfl rfl (by kernel_rfl) (fun _ _ _ h => h) (Or.inl ⟨by rfl, ?_⟩) (by assumption) ?_
            rotate_left
            · intro w hSw; rw [hSS.out] at hSw; obtain ⟨sw0, sw1, sw2, sw3⟩ := hSw; go_simp; try with_reducible rfl
            try simp only [Act.put, List.setIfInBounds_toArray, List.set_cons_zero, List.set_cons_succ]
            refine WpE.takeD (i := 8) (v := ?_) rfl rfl (by kernel_rfl) (fun _ _ _ h => h) (Or.inl ⟨by rfl, ?_⟩) (by assumption) ?_
            rotate_left
            · intro w hSw; rw [hSS.out] at hSw; obtain ⟨sw0, sw1, sw2, sw3⟩ := hSw; go_simp; try with_reducible rfl
            try simp only [Act.put, List.setIfInBounds_toArray, List.set_cons_zero, List.set_cons_succ]
            refine WpE.takeD (i := 9) (v := ?_) rfl rfl (by kernel_rfl) (fun _ _ _ h => h) (Or.inl ⟨by rfl, ?_⟩) (by assumption) ?_
            rotate_left
            · intro w hSw; rw [hSS.out] at hSw; obtain ⟨sw0, sw1, sw2, sw3⟩ := hSw; go_simp; try with_reducible rfl
            try simp only [Act.put, List.setIfInBounds_toArray, List.set_cons_zero, List.set_cons_succ]
            refine WpE.takeD (i := 10) (v := ?_) rfl rfl (by kernel_rfl) (fun _ _ _ h => h) (Or.inl ⟨by rfl, ?_⟩) (by assumption) ?_
            rotate_left
            · intro w hSw; rw [hSS.out] at hSw; obtain ⟨sw0, sw1, sw2, sw3⟩ := hSw; go_simp; try with_reducible rfl
            try simp only [Act.put, List.setIfInBounds_toArray, List.set_cons_zero, List.set_cons_succ]
            refine WpE.takeD (i := 11) (v := ?_) rfl rfl (by kernel_rfl) (fun _ _ _ h => h) (Or.inl ⟨by rfl, ?_⟩) (by assumption) ?_
            rotate_left
            · intro w hSw; rw [hSS.out] at hSw; obtain ⟨sw0, sw1, sw2, sw3⟩ := hSw; go_simp; try with_reducible rfl
            try simp only [Act.put, List.setIfInBounds_toArray, List.set_cons_zero, List.set_cons_succ]
            refine WpE.one (i := 12) rfl (by kernel_rfl) fun K hK => ?_
            go_wp2_with fail
            refine hput.mono ?_
            rintro e w6 ⟨ep, out, A6, c6, HPS, rfl, hN6, hb6⟩
            have BV6 := BVd.ext hb6
            have BC6 := BC.ext hb6
            have hS6 : S0 w6 := by
              rw [hSS.out]
              exact ⟨(BV6.cell off).trans (Array.getElem?_setIfInBounds_self_of_lt (by omega)), by rw [BC6.cell]; rfl, by rw [BC6.cell]; rfl, by rw [BC6.cell]; rfl⟩
            refine hK.out _ _ ⟨fun _ => hS6, ?_⟩
            clear hK K hput hS0
            try simp only [Act.put, List.setIfInBounds_toArray, List.set_cons_zero, List.set_cons_succ]
            refine WpE.takeD (i := 13) (v := ?_) rfl rfl (by kernel_rfl) (fun _ _ _ h => h) (Or.inl ⟨by rfl, ?_⟩) (by assumption) ?_
            rotate_left
            · intro w hSw; rw [hSS.out] at hSw; obtain ⟨sw0, sw1, sw2, sw3⟩ := hSw; go_simp; try with_reducible rfl
            try simp only [Act.put, List.setIfInBounds_toArray, List.set_cons_zero, List.set_cons_succ]
            refine WpE.takeD (i := 14) (v := ?_) rfl rfl (by kernel_rfl) (fun _ _ _ h => h) (Or.inl ⟨by rfl, ?_⟩) (by assumption) ?_
            rotate_left
            · intro w hSw; rw [hSS.out] at hSw; obtain ⟨sw0, sw1, sw2, sw3⟩ := hSw; go_simp; try with_reducible rfl
            try simp only [Act.put, List.setIfInBounds_toArray, List.set_cons_zero, List.set_cons_succ]
            refine WpE.freeD (i := 15) (v := ?_) rfl rfl (by kernel_rfl) (fun _ _ _ h => h) (Or.inl ⟨by rfl, ?_⟩) (by assumption) ?_
            rotate_left
            · intro w hSw; clear hSw; go_simp; try with_reducible rfl
            try simp only [Act.put, List.setIfInBounds_toArray, List.set_cons_zero, List.set_cons_succ]
            refine WpE.freeD (i := 16) (v := ?_) rfl rfl (by kernel_rfl) (fun _ _ _ h => h) (Or.inl ⟨by rfl, ?_⟩) (by assumption) ?_
            rotate_left
            · intro w hSw; clear hSw; go_simp; try with_reducible rfl
            try simp only [Act.put, List.setIfInBounds_toArray, List.set_cons_zero, List.set_cons_succ]
            refine WpE.freeD (i := 17) (v := ?_) rfl rfl (by kernel_rfl) (fun _ _ _ h => h) (Or.inl ⟨by rfl, ?_⟩) (by assumption) ?_
            rotate_left
            · intro w hSw; clear hSw; go_simp; try with_reducible rfl
            try simp only [Act.put, List.setIfInBounds_toArray, List.set_cons_zero, List.set_cons_succ]
            refine WpE.one (i := 18) rfl (by kernel_rfl) fun K hK => ?_
            have y2 : w6.frozen? ⟨gv, off, none⟩ = false := BV6.frozen _
            have y3 := BV6.lt
            have hcell6 : w6.cell? ⟨gv, off, none⟩ = some (.slice A4 M.length c4) := (BV6.cell off).trans (Array.getElem?_setIfInBounds_self_of_lt (by omega))
            go_wp2_with fail
            refine hK.out _ _ ⟨fun h => by first | (exact absurd h (by decide)) | (simp at h), ?_⟩
            refine WpE.done (by kernel_rfl) ?_ _
            clear hK K hSS hS6 S0 BVd BC BC6 y2 y3 hcell6
            obtain ⟨hep, hLo, hat⟩ := put_zero HI4.out.1 hh1 hh2 HIX.out HPS.out
            have HAT := Lib.hid hat
            clear hat hep
            have hSl6 := (hO6.ext hb6).slices HSL2.out
            go_wp2_with fail
            go_roundw
            case rel =>
              refine ⟨j + 1, A6, c6, out, by omega, by go_num, ?_, hN6.toPiecesAt.put hSl6, .inr ((hN6.own.since ?_) |> Only.own (.put off A6 out.length c6 (.refl w6)) BV6 (by decide)), Lib.hid ⟨hLo, fun t => ?_⟩, (hC6.ext hb6).put hSl6, .put off A6 out.length c6 (hO6.ext hb6)⟩
              · have h5 := BV6.set_ off (.slice A6 out.length c6)
                rwa [set_twice] at h5
              · have h6 := hO2.size
                simp
                omega
              · rw [HAT.out, HCV.out, cellStep, if_pos HPB.out]
                unfold putM
                rw [HI4.out.2 t]
                rfl
            case measure => simp [intOf]; omega
          | true =>
            rw [hhas] at x3
            by_cases hvs : x.v < x.s
            case pos =>
              have HPB : Hid (putB x = true) := Lib.hid (by simp [putB, hvs])
              clear hhas
              go_wp2_with fail
              have hal : Below wr.heap.size wr (wr.alloc (Obj.cells #[.int .i64 x.f, .int .i64 x.t, .int .i64 x.s, .bool true, .int .i64 x.v] 185)).drew := below_drew (ext_alloc (Below.refl _ _) _)
              have BC := (Blk.new wr 185 #[.int .i64 x.f, .int .i64 x.t, .int .i64 x.s, .bool true, .int .i64 x.v]).drew
              have BVd := BV.ext hal
              obtain ⟨S0, hSS⟩ : ∃ S0 : World → Prop, Hid (S0 = fun w' => w'.cell? ⟨gv, off, none⟩ = some (.slice A4 M.length c4) ∧ w'.cell? ⟨wr.heap.size, 0, none⟩ = some (.int .i64 x.f) ∧ w'.cell? ⟨wr.heap.size, 1, none⟩ = some (.int .i64 x.t) ∧ w'.cell? ⟨wr.heap.size, 4, none⟩ = some (.int .i64 x.v)) := ⟨_, Lib.hid rfl⟩
              have hS0 : S0 (wr.alloc (Obj.cells #[.int .i64 x.f, .int .i64 x.t, .int .i64 x.s, .bool true, .int .i64 x.v] 185)).drew := by
                rw [hSS.out]
                exact ⟨(BVd.cell off).trans (Array.getElem?_setIfInBounds_self_of_lt (by omega)), by rw [BC.cell]; rfl, by rw [BC.cell]; rfl, by rw [BC.cell]; rfl⟩
              have hput := imapPut_any A4 c4 M ⟨x.f, x.t, x.v⟩ _ (hM4.ext hal)
              have hC6 := hC4.ext hal
              have hO6 := hO4.ext hal
              clear x0 x1 x2 x3 x4 hM4 hN4 hC4 hO4
              refine WpE.begin (S := S0) 18 (by kernel_rfl) ?_
              refine WpE.takeD (i := 0) (v := ?_) rfl rfl (by kernel_rfl) (fun _ _ _ h => h) (Or.inl ⟨by rfl, ?_⟩) (by assumption) ?_
              rotate_left
              · intro w hSw; rw [hSS.out] at hSw; obtain ⟨sw0, sw1, sw2, sw3⟩ := hSw; go_simp; try with_reducible rfl
              try simp only [Act.put, List.setIfInBounds_toArray, List.set_cons_zero, List.set_cons_succ]
              refine WpE.takeD (i := 1) (v := ?_) rfl rfl (by kernel_rfl) (fun _ _ _ h => h) (Or.inl ⟨by rfl, ?_⟩) (by assumption) ?_
              rotate_left
              · intro w hSw; rw [hSS.out] at hSw; obtain ⟨sw0, sw1, sw2, sw3⟩ := hSw; go_simp; try with_reducible rfl
              try simp only [Act.put, List.setIfInBounds_toArray, List.set_cons_zero, List.set_cons_succ]
              refine WpE.takeD (i := 2) (v := ?_) rfl rfl (by kernel_rfl) (fun _ _ _ h => h) (Or.inl ⟨by rfl, ?_⟩) (by assumption) ?_
              rotate_left
              · intro w hSw; rw [hSS.out] at hSw; obtain ⟨sw0, sw1, sw2, sw3⟩ := hSw; go_simp; try with_reducible rfl
              try simp only [Act.put, List.setIfInBounds_toArray, List.set_cons_zero, List.set_cons_succ]
              refine WpE.takeD (i := 3) (v := ?_) rfl rfl (by kernel_rfl) (fun _ _ _ h => h) (Or.inl ⟨by rfl, ?_⟩) (by assumption) ?_
              rotate_left
              · intro w hSw; rw [hSS.out] at hSw; obtain ⟨sw0, sw1, sw2, sw3⟩ := hSw; go_simp; try with_reducible rfl
              try simp only [Act.put, List.setIfInBounds_toArray, List.set_cons_zero, List.set_cons_succ]
              refine WpE.takeD (i := 4) (v := ?_) rfl rfl (by kernel_rfl) (fun _ _ _ h => h) (Or.inl ⟨by rfl, ?_⟩) (by assumption) ?_
              rotate_left
              · intro w hSw; rw [hSS.out] at hSw; obtain ⟨sw0, sw1, sw2, sw3⟩ := hSw; go_simp; try with_reducible rfl
              try simp only [Act.put, List.setIfInBounds_toArray, List.set_cons_zero, List.set_cons_succ]
              refine WpE.takeD (i := 5) (v := ?_) rfl rfl (by kernel_rfl) (fun _ _ _ h => h) (Or.inl ⟨by rfl, ?_⟩) (by assumption) ?_
              rotate_left
              · intro w hSw; rw [hSS.out] at hSw; obtain ⟨sw0, sw1, sw2, sw3⟩ := hSw; go_simp; try with_reducible rfl
              try simp only [Act.put, List.setIfInBounds_toArray, List.set_cons_zero, List.set_cons_succ]
              refine WpE.takeD (i := 6) (v := ?_) rfl rfl (by kernel_rfl) (fun _ _ _ h => h) (Or.inl ⟨by rfl, ?_⟩) (by assumption) ?_
              rotate_left
              · intro w hSw; rw [hSS.out] at hSw; obtain ⟨sw0, sw1, sw2, sw3⟩ := hSw; go_simp; try with_reducible rfl
              try simp only [Act.put, List.setIfInBounds_toArray, List.set_cons_zero, List.set_cons_succ]
              refine WpE.takeD (i := 7) (v := ?_) rfl rfl (by kernel_rfl) (fun _ _ _ h => h) (Or.inl ⟨by rfl, ?_⟩) (by assumption) ?_
              rotate_left
              · intro w hSw; rw [hSS.out] at hSw; obtain ⟨sw0, sw1, sw2, sw3⟩ := hSw; go_simp; try with_reducible rfl
              try simp only [Act.put, List.setIfInBounds_toArray, List.set_cons_zero, List.set_cons_succ]
              refine WpE.takeD (i := 8) (v := ?_) rfl rfl (by kernel_rfl) (fun _ _ _ h => h) (Or.inl ⟨by rfl, ?_⟩) (by assumption) ?_
              rotate_left
              · intro w hSw; rw [hSS.out] at hSw; obtain ⟨sw0, sw1, sw2, sw3⟩ := hSw; go_simp; try with_reducible rfl
              try simp only [Act.put, List.setIfInBounds_toArray, List.set_cons_zero, List.set_cons_succ]
              refine WpE.takeD (i := 9) (v := ?_) rfl rfl (by kernel_rfl) (fun _ _ _ h => h) (Or.inl ⟨by rfl, ?_⟩) (by assumption) ?_
              rotate_left
              · intro w hSw; rw [hSS.out] at hSw; obtain ⟨sw0, sw1, sw2, sw3⟩ := hSw; go_simp; try with_reducible rfl
              try simp only [Act.put, List.setIfInBounds_toArray, List.set_cons_zero, List.set_cons_succ]
              refine WpE.takeD (i := 10) (v := ?_) rfl rfl (by kernel_rfl) (fun _ _ _ h => h) (Or.inl ⟨by rfl, ?_⟩) (by assumption) ?_
              rotate_left
              · intro w hSw; rw [hSS.out] at hSw; obtain ⟨sw0, sw1, sw2, sw3⟩ := hSw; go_simp; try with_reducible rfl
              try simp only [Act.put, List.setIfInBounds_toArray, List.set_cons_zero, List.set_cons_succ]
              refine WpE.takeD (i := 11) (v := ?_) rfl rfl (by kernel_rfl) (fun _ _ _ h => h) (Or.inl ⟨by rfl, ?_⟩) (by assumption) ?_
              rotate_left
              · intro w hSw; rw [hSS.out] at hSw; obtain ⟨sw0, sw1, sw2, sw3⟩ := hSw; go_simp; try with_reducible rfl
              try simp only [Act.put, List.setIfInBounds_toArray, List.set_cons_zero, List.set_cons_succ]
              refine WpE.one (i := 12) rfl (by kernel_rfl) fun K hK => ?_
              go_wp2_with fail
              refine hput.mono ?_
              rintro e w6 ⟨ep, out, A6, c6, HPS, rfl, hN6, hb6⟩
              have BV6 := BVd.ext hb6
              have BC6 := BC.ext hb6
              have hS6 : S0 w6 := by
                rw [hSS.out]
                exact ⟨(BV6.cell off).trans (Array.getElem?_setIfInBounds_self_of_lt (by omega)), by rw [BC6.cell]; rfl, by rw [BC6.cell]; rfl, by rw [BC6.cell]; rfl⟩
              refine hK.out _ _ ⟨fun _ => hS6, ?_⟩
              clear hK K hput hS0
              try simp only [Act.put, List.setIfInBounds_toArray, List.set_cons_zero, List.set_cons_succ]
              refine WpE.takeD (i := 13) (v := ?_) rfl rfl (by kernel_rfl) (fun _ _ _ h => h) (Or.inl ⟨by rfl, ?_⟩) (by assumption) ?_
              rotate_left
              · intro w hSw; rw [hSS.out] at hSw; obtain ⟨sw0, sw1, sw2, sw3⟩ := hSw; go_simp; try with_reducible rfl
              try simp only [Act.put, List.setIfInBounds_toArray, List.set_cons_zero, List.set_cons_succ]
              refine WpE.takeD (i := 14) (v := ?_) rfl rfl (by kernel_rfl) (fun _ _ _ h => h) (Or.inl ⟨by rfl, ?_⟩) (by assumption) ?_
              rotate_left
              · intro w hSw; rw [hSS.out] at hSw; obtain ⟨sw0, sw1, sw2, sw3⟩ := hSw; go_simp; try with_reducible rfl
              try simp only [Act.put, List.setIfInBounds_toArray, List.set_cons_zero, List.set_cons_succ]
              refine WpE.freeD (i := 15) (v := ?_) rfl rfl (by kernel_rfl) (fun _ _ _ h => h) (Or.inl ⟨by rfl, ?_⟩) (by assumption) ?_
              rotate_left
              · intro w hSw; clear hSw; go_simp; try with_reducible rfl
              try simp only [Act.put, List.setIfInBounds_toArray, List.set_cons_zero, List.set_cons_succ]
              refine WpE.freeD (i := 16) (v := ?_) rfl rfl (by kernel_rfl) (fun _ _ _ h => h) (Or.inl ⟨by rfl, ?_⟩) (by assumption) ?_
              rotate_left
              · intro w hSw; clear hSw; go_simp; try with_reducible rfl
              try simp only [Act.put, List.setIfInBounds_toArray, List.set_cons_zero, List.set_cons_succ]
              refine WpE.freeD (i := 17) (v := ?_) rfl rfl (by kernel_rfl) (fun _ _ _ h => h) (Or.inl ⟨by rfl, ?_⟩) (by assumption) ?_
              rotate_left
              · intro w hSw; clear hSw; go_simp; try with_reducible rfl
              try simp only [Act.put, List.setIfInBounds_toArray, List.set_cons_zero, List.set_cons_succ]
              refine WpE.one (i := 18) rfl (by kernel_rfl) fun K hK => ?_
              have y2 : w6.frozen? ⟨gv, off, none⟩ = false := BV6.frozen _
              have y3 := BV6.lt
              have hcell6 : w6.cell? ⟨gv, off, none⟩ = some (.slice A4 M.length c4) := (BV6.cell off).trans (Array.getElem?_setIfInBounds_self_of_lt (by omega))
              go_wp2_with fail
              refine hK.out _ _ ⟨fun h => by first | (exact absurd h (by decide)) | (simp at h), ?_⟩
              refine WpE.done (by kernel_rfl) ?_ _
              clear hK K hSS hS6 S0 BVd BC BC6 y2 y3 hcell6
              obtain ⟨hep, hLo, hat⟩ := put_zero HI4.out.1 hh1 hh2 HIX.out HPS.out
              have HAT := Lib.hid hat
              clear hat hep
              have hSl6 := (hO6.ext hb6).slices HSL2.out
              go_wp2_with fail
              go_roundw
              case rel =>
                refine ⟨j + 1, A6, c6, out, by omega, by go_num, ?_, hN6.toPiecesAt.put hSl6, .inr ((hN6.own.since ?_) |> Only.own (.put off A6 out.length c6 (.refl w6)) BV6 (by decide)), Lib.hid ⟨hLo, fun t => ?_⟩, (hC6.ext hb6).put hSl6, .put off A6 out.length c6 (hO6.ext hb6)⟩
                · have h5 := BV6.set_ off (.slice A6 out.length c6)
                  rwa [set_twice] at h5
                · have h6 := hO2.size
                  simp
                  omega
                · rw [HAT.out, HCV.out, cellStep, if_pos HPB.out]
                  unfold putM
                  rw [HI4.out.2 t]
                  rfl
              case measure => simp [intOf]; omega
            case neg =>
              have HPB : Hid (¬ putB x = true) := Lib.hid (by simp [putB, hhas]; omega)
              clear hhas
              go_wp2_with fail
              have hal : Below wr.heap.size wr (wr.alloc (Obj.cells #[.int .i64 x.f, .int .i64 x.t, .int .i64 x.s, .bool true, .int .i64 x.v] 185)) := ext_alloc (Below.refl _ _) _
              go_roundw
              case rel => exact ⟨j + 1, A4, c4, M, by omega, by go_num, BV.ext hal, hM4.ext hal, hN4.only (.of_below hal) BV (by decide), Lib.hid ⟨HI4.out.1, fun t => by rw [HI4.out.2 t, HCV.out, cellStep, if_neg HPB.out]⟩, hC4.ext hal, hO4.ext hal⟩
              case measure => simp [intOf]; omega
end Go.Proofs.YtdpibehpmghghaaGreat
