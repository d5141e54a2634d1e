/- Several texts in one: BspTake, BspSpec2. -/
import Derived.BigRegion
import Derived.Test.YtjcimdpldlamfaaGreatDoorBd1aa46607c4
import Derived.Test.YtjcimdpldlamfaaGreatDoorBd5698a6dfe8
import Derived.Test.YtjcimdpldlamfaaGreatDoorBd74e84032f1
import Derived.Test.YtjcimdpldlamfaaGreatDoorBd4a593d164a
import Derived.Test.YtjcimdpldlamfaaGreatDoorBd96fdae9b88
/- The walk of (*bsp.vertex).take (printed by gentake.py). -/
namespace Go.Proofs.YtjcimdpldlamfaaGreatDoor
open Go.RowKit

theorem set_same {cs : Array Value} {o : Nat} {v : Value} (h : cs[o]? = some v) : cs.setIfInBounds o v = cs := by
 apply Array.ext_getElem?
 intro i
 by_cases e : o = i
 ·subst e
  rw [Array.getElem?_setIfInBounds_self_of_lt (Array.getElem?_eq_some_iff.1 h).1, h]
 ·rw [Array.getElem?_setIfInBounds_ne e]
theorem set_twice {cs : Array Value} {o : Nat} {u v : Value} : (cs.setIfInBounds o u).setIfInBounds o v = cs.setIfInBounds o v := by
 apply Array.ext_getElem?
 intro i
 by_cases e : o = i
 ·subst e
  by_cases h : o < cs.size
  ·rw [Array.getElem?_setIfInBounds_self_of_lt (by simpa using h), Array.getElem?_setIfInBounds_self_of_lt h]
  ·rw [Array.getElem?_eq_none (by simpa using h), Array.getElem?_eq_none (by simpa using h)]
 ·rw [Array.getElem?_setIfInBounds_ne e, Array.getElem?_setIfInBounds_ne e, Array.getElem?_setIfInBounds_ne e]
theorem take_more {l : List PieceD} {k n : Nat} : l.take (k + n) = l.take k ++ (l.drop k).take n := List.take_add
/-- The list is the old one, or lies in memory of its own. -/
def NewOr (b0 : Nat) (w : World) (A : Option Addr) (c : Nat) (S : List PieceD) (A' : Option Addr) (c' : Nat) (S' : List PieceD) : Prop := (A' = A ∧ c' = c ∧ S' = S) ∨ Own pieceC 3 w b0 113 (.slice A' S'.length c') S'
theorem NewOr.only {b0 g : Nat} {w w' : World} {A A' : Option Addr} {c c' : Nat} {S S' : List PieceD} {t : TypeId} {cs : Array Value} (h : NewOr b0 w A c S A' c' S') (hO : Only g w w') (hB : Blk w g t cs) (ht : 113 ≠ t) : NewOr b0 w' A c S A' c' S' := h.imp id fun k => hO.own hB ht k
def lenOf (v : Value) : Nat := match v with | .slice _ n _ => n | _ => 0
def TakeOut (h : Int) (gv off : Nat) (cs : Array Value) (A : Option Addr) (c : Nat) (S msgs : List PieceD) (w : World) (e : Ending) (w' : World) : Prop := e = .returned (.tuple #[]) ∧ ∃ (A' : Option Addr) (c' : Nat) (S' : List PieceD) (A'' : Option Addr) (c'' : Nat) (F : List PieceD),
 Hid (Lies h S' ∧ (∀ t, val S' t = minAt msgs t (val S t)) ∧ FreshIs h S' (val S) F) ∧ Blk w' gv 192 ((cs.setIfInBounds off (.slice A' S'.length c')).setIfInBounds (off + 1) (.slice A'' F.length c'')) ∧
 PiecesAt w' A' c' S' ∧ NewOr w.heap.size w' A c S A' c' S' ∧ PiecesNew w.heap.size w' A'' c'' F ∧ Only gv w w'
set_option maxRecDepth 100000 in
set_option maxHeartbeats 4000000 in
theorem take_any (h : Int) (gv off : Nat) (cs : Array Value) (A B : Option Addr) (c d : Nat) (S msgs : List PieceD) (vf : Value) (w : World) (hV : Blk w gv 192 cs) (hsl : ∀ (i : Nat) u, cs[i]? = some u → ∃ A n c, u = Value.slice A n c)
  (h0 : cs[off]? = some (.slice A S.length c)) (h1 : cs[off + 1]? = some vf) (hS : PiecesAt w A c S) (hM : PiecesAt w B d msgs) (hL : Lies h S) (hm : ∀ x, x ∈ msgs → MsgIn h x) (hh1 : 1 ≤ h) (hh2 : h ≤ 100) (hml : msgs.length ≤ 100000) :
  Calls Tryz.prog 159 #[.pointer (some ⟨gv, off, none⟩), .slice B msgs.length d] w (TakeOut h gv off cs A c S msgs w) := by
 have HSL := Lib.hid (show Slices w gv from ⟨_, cs, hV, hsl⟩)
 have HL := Lib.hid hL; have HMM := Lib.hid hm
 have hof : off + 1 < cs.size := (Array.getElem?_eq_some_iff.1 h1).1
 have hB0 : Blk w gv 192 (cs.setIfInBounds off (.slice A S.length c)) := by rw [set_same h0]; exact hV
 have hgw := hV.lt
 obtain ⟨c1, c2, c3⟩ := hV.facts
 have hc0 := (hV.cell off).trans h0
 have hdl := hM.lc
 have hdm := hM.cm
 unfold maxLen at hdm
 have HM := Lib.hid hM; have HS := Lib.hid hS
 clear hL hm hsl hV h1 hM hS
 go_enter Tryz.func159, Tryz.ntmps159
 go_wp2_with fail
 clear c1 c2 c3 hc0 h0
 go_loopw [1] (fun x wr => ∃ (k r : Nat) (Ax : Option Addr) (cx : Nat) (A' : Option Addr) (c' : Nat) (S' : List PieceD), x = .slice Ax r cx ∧ k + r = msgs.length ∧ (r ≠ 0 → ∃ gm om, Ax = some ⟨gm, om, none⟩ ∧ PiecesAt wr Ax cx (msgs.drop k)) ∧ r ≤ cx ∧ cx ≤ 9223372036854775807 ∧
  Blk wr gv 192 (cs.setIfInBounds off (.slice A' S'.length c')) ∧ PiecesAt wr A' c' S' ∧ NewOr w.heap.size wr A c S A' c' S' ∧ Hid (Lies h S' ∧ ∀ t, val S' t = minAt (msgs.take k) t (val S t)) ∧ Only gv w wr) (fun x _ => lenOf x)
 case atStart =>
  refine ⟨0, msgs.length, B, d, A, c, S, rfl, by omega, fun hr => ?_, hdl, hdm, hB0, HS.out, .inl ⟨rfl, rfl, rfl⟩, Lib.hid ⟨HL.out, fun t => rfl⟩, .refl w⟩
  obtain ⟨x, hx⟩ := get_lt (show 0 < msgs.length by omega)
  obtain ⟨b, o, rfl, _⟩ := HM.out.get hx
  exact ⟨b, o, rfl, HM.out⟩
 case round =>
  clear hB0
  obtain ⟨k, r, Ax, cx, A', c', S', rfl, hkr, hAx, hrc, hcx, BV, hS, hN, HI, hO⟩ := hrel
  have hSl := hO.slices HSL.out
  have hzz := hO.size
  have hcell : wr.cell? ⟨gv, off, none⟩ = some (.slice A' S'.length c') := (BV.cell off).trans (Array.getElem?_setIfInBounds_self_of_lt (by omega))
  have hfz : wr.frozen? ⟨gv, off + 1, none⟩ = false := BV.frozen _
  have hgr := BV.lt
  by_cases hr0 : r = 0
  case pos =>
   subst hr0
   have HD : Hid (Lies h S' ∧ ∀ t, val S' t = minAt msgs t (val S t)) := Lib.hid (by
    have h2 := HI.out.2
    rw [List.take_of_length_le (by omega)] at h2
    exact ⟨HI.out.1, h2⟩)
   have hwas := hO.pieces HSL.out HS.out
   have hle := bspLess_any h A' A c' c S' S wr hS hwas HI.out.1 HL.out hh1 hh2
   clear HI hAx hfz
   go_wp2_with fail
   refine hle.mono ?_
   rintro e w5 ⟨A5, c5, F, HF, rfl, hF5, hb5⟩
   have BV5 := BV.ext hb5
   obtain ⟨y1, y2, y3⟩ := BV5.facts
   have hO5 := hO.ext hb5
   have hsz5 : (cs.setIfInBounds off (.slice A' S'.length c'))[off + 1]?.isSome = true := by
    rw [Array.getElem?_setIfInBounds_ne (by omega)]
    simp [hof]
   obtain ⟨uu, huu⟩ := Option.isSome_iff_exists.1 hsz5
   have hcell5 := (BV5.cell (off + 1)).trans huu
   clear hle hcell hsz5
   go_wp2_with fail
   refine ⟨rfl, .tuple #[], by simp [results, Tryz.results159], ?_⟩
   have hsl5 := hO5.slices HSL.out
   exact ⟨rfl, A', c', S', A5, c5, F, Lib.hid ⟨HD.out.1, HD.out.2, HF.out⟩, BV5.set_ (off + 1) (.slice A5 F.length c5), (hS.ext hb5).put hsl5, (hN.only (.of_below hb5) BV (by decide)).only (.put (off + 1) A5 F.length c5 (.refl w5)) BV5 (by decide),
    ((hF5.since (by omega)) |> fun hq => Only.new (.put (off + 1) A5 F.length c5 (.refl w5)) hsl5 BV5 (by decide) hq), .put (off + 1) A5 F.length c5 hO5⟩
  case neg =>
   obtain ⟨gm, om, rfl, hMk⟩ := hAx hr0
   obtain ⟨nb, hnb⟩ : ∃ nb, min r 20 = nb := ⟨_, rfl⟩
   obtain ⟨rr, rfl⟩ : ∃ rr, r = nb + rr := ⟨r - nb, by omega⟩
   obtain ⟨cr, rfl⟩ : ∃ cr, cx = nb + cr := ⟨cx - nb, by omega⟩
   have hnb0 : 0 < nb := by omega
   have hmin : min ((nb : Int) + (rr : Int)) 20 = (nb : Int) := by omega
   have hnb20 : nb ≤ 20 := by omega
   have hd0 : decide (((nb + rr : Nat) : Int) > 0) = true := by simp; omega
   obtain ⟨batch, hbt⟩ : ∃ batch, (msgs.drop k).take nb = batch := ⟨_, rfl⟩
   have hbl : batch.length = nb := by rw [← hbt, List.length_take, List.length_drop]; omega
   have hMb : PiecesAt wr (some ⟨gm, om, none⟩) (nb + cr) batch := by rw [← hbt]; exact hMk.taken nb
   have HBI : Hid (∀ x, x ∈ batch → MsgIn h x) := Lib.hid fun x hx => by rw [← hbt] at hx; exact HMM.out x (List.mem_of_mem_drop (List.mem_of_mem_take hx))
   have HMK := Lib.hid hMk
   have HBT := Lib.hid hbt
   have hcl := warpCellsP_any A' (some ⟨gm, om, none⟩) c' (nb + cr) S' batch 1 wr hS hMb
   rw [hbl] at hcl
   have HCL := Lib.hid hcl
   have HBL := Lib.hid hbl
   have HS0 := Lib.hid hS
   have HN0 := Lib.hid hN
   have HMB := Lib.hid hMb
   have HN1 := Lib.hid (NewOr.only HN0.out (.of_below (below_drew (Below.refl wr.heap.size wr))) BV (by decide))
   clear hcl hMk hMb hbt hbl hnb hAx hr0 hS hN HCL
   go_wp2_with fail
   obtain ⟨S0, hSS⟩ : ∃ S0 : World → Prop, Hid (S0 = fun w' => w'.cell? ⟨gv, off, none⟩ = some (.slice A' S'.length c')) := ⟨_, Lib.hid rfl⟩
   have BV0 := BV.drew
   have hO0 : Only gv w wr.drew := hO.ext (below_drew (Below.refl _ _))
   have hcl := warpCellsP_any A' (some ⟨gm, om, none⟩) c' (nb + cr) S' batch 1 wr.drew (HS0.out.ext (below_drew (Below.refl _ _))) (HMB.out.ext (below_drew (Below.refl _ _)))
   rw [HBL.out] at hcl
   have hS0 : S0 wr.drew := by rw [hSS.out]; exact hcell
   clear hcell BV hO
   refine WpN.begin (S := S0) 12 (by kernel_rfl) ?_
   refine tN 0 ?_ ?_ <| tN 1 ?_ ?_ <| tN 2 ?_ ?_ <| tN 3 ?_ ?_ <| tN 4 ?_ ?_ <| tN 5 ?_ ?_ ?_
   iterate 6
    rotate_left
    ·intro w hSw; rw [hSS.out] at hSw; have sw0 := hSw; clear hSw; (try simp only [pS]); go_simp; try with_reducible rfl
   try simp only [pS]
   refine WpN.takeD (i := 6) (v := ?_) rfl rfl (by kernel_rfl) (fun _ _ _ h => h) (Or.inl ⟨by rfl, ?_⟩) (by assumption) ?_
   rotate_left
   ·intro w hSw; rw [hSS.out] at hSw; have sw0 := hSw; clear hSw; go_simp; rw [if_pos (by omega)]; try with_reducible rfl
   try simp only [pS]
   refine WpN.one (i := 7) rfl (by kernel_rfl) fun K hK => ?_
   go_wp2_with fail
   refine hcl.mono ?_
   rintro e w2 ⟨er, cl, Ac, cc, HCS, rfl, hCA, hb2⟩
   have BV2 := BV0.ext hb2
   have hS2 : S0 w2 := by rw [hSS.out]; exact (BV2.cell off).trans (Array.getElem?_setIfInBounds_self_of_lt (by omega))
   refine hK.out _ _ ⟨fun _ => hS2, ?_⟩
   clear hK K hcl hS0
   try simp only [pS]
   refine tN 8 ?_ ?_ <| tN 9 ?_ ?_ <| tN 10 ?_ ?_ <| tN 11 ?_ ?_ ?_
   iterate 4
    rotate_left
    ·intro w hSw; rw [hSS.out] at hSw; have sw0 := hSw; clear hSw; (try simp only [pS]); go_simp; try with_reducible rfl
   try simp only [pS]
   refine WpN.one (i := 12) rfl (by kernel_rfl) fun K hK => ?_
   go_wp2_with fail
   refine hK.out _ _ ⟨fun h => by omega, ?_⟩
   refine WpN.done (by kernel_rfl) ?_ _
   clear hK K hSS hS2 S0
   obtain ⟨her, hcl100, hcin⟩ := cells_zero (batch := batch) HI.out.1 hh1 hh2 (by rw [HBL.out]; omega) HBI.out HCS.out
   subst her
   have HCIN := Lib.hid hcin
   clear hcin
   have hO2 := hO0.ext hb2
   have hSz2 := HS0.out.ext (ext_trans (below_drew (Below.refl _ _)) hb2)
   have hN2 := HN1.out.only (.of_below hb2) BV0 (by decide)
   have hSl2 := hO2.slices HSL.out
   have HMK2 := Lib.hid (HMK.out.ext (ext_trans (below_drew (Below.refl _ _)) hb2))
   have hclm : cl.length ≤ cc := hCA.lc
   have hccm := hCA.cm
   clear hSl hzz hfz hgr hO0 hb2 BV0 HS0 HN0 HMK HMB
   go_wp2_with fail
   go_loopw [33] (fun v wt => ∃ (j : Nat) (A4 : Option Addr) (c4 : Nat) (M : List PieceD), j ≤ cl.length ∧ v = .int .i64 j ∧ Blk wt gv 192 (cs.setIfInBounds off (.slice A4 M.length c4)) ∧ PiecesAt wt A4 c4 M ∧ NewOr w.heap.size wt A c S A4 c4 M ∧
    Hid (Lies h M ∧ ∀ t, atM M t = cellsF (atM S') (cl.take j) t) ∧ CellsAt wt Ac cc cl ∧ Only gv w2 wt) (fun v _ => cl.length - (intOf v).toNat)
   case atStart => exact ⟨0, A', c', S', by omega, rfl, BV2, hSz2, hN2, Lib.hid ⟨HI.out.1, fun t => rfl⟩, hCA, .refl w2⟩
   case round =>
    have HSL2 := Lib.hid hSl2
    clear BV2 hSz2 hN2 hCA hSl2
    obtain ⟨j, A4, c4, M, hj, rfl, BV, hM4, hN4, HI4, hC4, hO4⟩ := hrel
    have hzt := hO4.size
    have HSL4 := Lib.hid (hO4.slices HSL2.out)
    by_cases hlt : j < cl.length
    case neg =>
     obtain rfl : j = cl.length := by omega
     have HD : Hid (Lies h M ∧ ∀ t, val M t = minAt (msgs.take (k + nb)) t (val S t)) := Lib.hid ⟨HI4.out.1, fun t => by
      have h1 := HI4.out.2
      rw [List.take_length] at h1
      rw [batch_done (batch := batch) HI.out.1 HBI.out HCS.out h1 t, HI.out.2 t, take_more, minAt_append, HBT.out]⟩
     have hMr : PiecesAt wr (some ⟨gm, om + nb * 3, none⟩) cr (msgs.drop (k + nb)) := by
      have h2 := (hO4.pieces HSL2.out HMK2.out).drop (k := nb) (by rw [List.length_drop]; omega)
      rw [List.drop_drop] at h2
      have e : nb + cr - nb = cr := by omega
      rw [e] at h2
      exact h2
     have hnl := hMr.lc
     have hrl : msgs.length - (k + nb) = rr := by omega
     have hO9 := hO2.trans hO4
     clear hC4 hO4
     by_cases hcr : cr = 0
     case pos =>
      subst hcr
      have hrr0 : rr = 0 := by omega
      subst hrr0
      go_wp2_with fail
      go_roundw
      case rel => exact ⟨k + nb, 0, some ⟨gm, om, none⟩, 0, A4, c4, M, rfl, by omega, fun h => absurd rfl h, Nat.le_refl _, by omega, BV, hM4, hN4, HD, hO9⟩
      case measure => simp [lenOf]; omega
     case neg =>
      have hcrp : 0 < cr := by omega
      go_wp2_with fail
      go_roundw
      case rel => exact ⟨k + nb, rr, some ⟨gm, om + nb * 3, none⟩, cr, A4, c4, M, rfl, by omega, fun _ => ⟨gm, om + nb * 3, rfl, hMr⟩, by omega, by omega, BV, hM4, hN4, HD, hO9⟩
      case measure => simp [lenOf]; omega
    case pos =>
     obtain ⟨x, hx⟩ := get_lt hlt
     have HX := Lib.hid hx
     have HIX := Lib.hid (HCIN.out x (List.mem_of_getElem? hx))
     obtain ⟨b, o5, rfl, hb0, x0, x1, x2, x3, x4⟩ := hC4.get hx
     clear hx
     have hcv : cellsF (atM S') (cl.take (j + 1)) = cellStep (cellsF (atM S') (cl.take j)) x := cellsF_snoc HX.out
     have HCV := Lib.hid hcv
     clear hcv
     cases hhas : x.has with
     | false =>
      rw [hhas] at x3
      have HPB : Hid (putB x = true) := Lib.hid (by simp [putB, hhas])
      clear hhas
      go_wp2_with fail
      have hal : Below wr.heap.size wr (wr.alloc (Obj.cells #[.int .i64 x.f, .int .i64 x.t, .int .i64 x.s, .bool false, .int .i64 x.v] 221)).drew := below_drew (ext_alloc (Below.refl _ _) _)
      have BC := (Blk.new wr 221 #[.int .i64 x.f, .int .i64 x.t, .int .i64 x.s, .bool false, .int .i64 x.v]).drew
      have BVd := BV.ext hal
      obtain ⟨S0, hSS⟩ : ∃ S0 : World → Prop, Hid (S0 = fun w' => w'.cell? ⟨gv, off, none⟩ = some (.slice A4 M.length c4) ∧ w'.cell? ⟨wr.heap.size, 0, none⟩ = some (.int .i64 x.f) ∧ w'.cell? ⟨wr.heap.size, 1, none⟩ = some (.int .i64 x.t) ∧ w'.cell? ⟨wr.heap.size, 4, none⟩ = some (.int .i64 x.v)) := ⟨_, Lib.hid rfl⟩
      have hS0 : S0 (wr.alloc (Obj.cells #[.int .i64 x.f, .int .i64 x.t, .int .i64 x.s, .bool false, .int .i64 x.v] 221)).drew := by
       rw [hSS.out]
       exact ⟨(BVd.cell off).trans (Array.getElem?_setIfInBounds_self_of_lt (by omega)), by rw [BC.cell]; rfl, by rw [BC.cell]; rfl, by rw [BC.cell]; rfl⟩
      have hput := imapPut_any A4 c4 M ⟨x.f, x.t, x.v⟩ _ (hM4.ext hal)
      have hC6 := hC4.ext hal
      have hO6 := hO4.ext hal
      clear x0 x1 x2 x3 x4 hM4 hN4 hC4 hO4
      refine WpE.begin (S := S0) 18 (by kernel_rfl) ?_
      refine tE 0 ?_ ?_ <| tE 1 ?_ ?_ <| tE 2 ?_ ?_ <| tE 3 ?_ ?_ <| tE 4 ?_ ?_ <| tE 5 ?_ ?_ <| tE 6 ?_ ?_ <| tE 7 ?_ ?_ <| tE 8 ?_ ?_ <| tE 9 ?_ ?_ <| tE 10 ?_ ?_ <| tE 11 ?_ ?_ ?_
      iterate 12
       rotate_left
       ·intro w hSw; rw [hSS.out] at hSw; obtain ⟨sw0, sw1, sw2, sw3⟩ := hSw; (try simp only [pS]); go_simp; try with_reducible rfl
      try simp only [pS]
      refine WpE.one (i := 12) rfl (by kernel_rfl) fun K hK => ?_
      go_wp2_with fail
      refine hput.mono ?_
      rintro e w6 ⟨ep, out, A6, c6, HPS, rfl, hN6, hb6⟩
      have BV6 := BVd.ext hb6
      have BC6 := BC.ext hb6
      have hS6 : S0 w6 := by
       rw [hSS.out]
       exact ⟨(BV6.cell off).trans (Array.getElem?_setIfInBounds_self_of_lt (by omega)), by rw [BC6.cell]; rfl, by rw [BC6.cell]; rfl, by rw [BC6.cell]; rfl⟩
      refine hK.out _ _ ⟨fun _ => hS6, ?_⟩
      clear hK K hput hS0
      try simp only [pS]
      refine tE 13 ?_ ?_ <| tE 14 ?_ ?_ ?_
      iterate 2
       rotate_left
       ·intro w hSw; rw [hSS.out] at hSw; obtain ⟨sw0, sw1, sw2, sw3⟩ := hSw; (try simp only [pS]); go_simp; try with_reducible rfl
      try simp only [pS]
      refine WpE.freeD (i := 15) (v := ?_) rfl rfl (by kernel_rfl) (fun _ _ _ h => h) (Or.inl ⟨by rfl, ?_⟩) (by assumption) ?_
      rotate_left
      ·intro w hSw; clear hSw; go_simp; try with_reducible rfl
      try simp only [pS]
      refine WpE.freeD (i := 16) (v := ?_) rfl rfl (by kernel_rfl) (fun _ _ _ h => h) (Or.inl ⟨by rfl, ?_⟩) (by assumption) ?_
      rotate_left
      ·intro w hSw; clear hSw; go_simp; try with_reducible rfl
      try simp only [pS]
      refine WpE.freeD (i := 17) (v := ?_) rfl rfl (by kernel_rfl) (fun _ _ _ h => h) (Or.inl ⟨by rfl, ?_⟩) (by assumption) ?_
      rotate_left
      ·intro w hSw; clear hSw; go_simp; try with_reducible rfl
      try simp only [pS]
      refine WpE.one (i := 18) rfl (by kernel_rfl) fun K hK => ?_
      have y2 : w6.frozen? ⟨gv, off, none⟩ = false := BV6.frozen _
      have y3 := BV6.lt
      have hcell6 : w6.cell? ⟨gv, off, none⟩ = some (.slice A4 M.length c4) := (BV6.cell off).trans (Array.getElem?_setIfInBounds_self_of_lt (by omega))
      go_wp2_with fail
      refine hK.out _ _ ⟨fun h => by first | (exact absurd h (by decide)) | (simp at h), ?_⟩
      refine WpE.done (by kernel_rfl) ?_ _
      clear hK K hSS hS6 S0 BVd BC BC6 y2 y3 hcell6
      obtain ⟨hep, hLo, hat⟩ := put_zero HI4.out.1 hh1 hh2 HIX.out HPS.out
      have HAT := Lib.hid hat
      clear hat hep
      have hSl6 := (hO6.ext hb6).slices HSL2.out
      go_wp2_with fail
      go_roundw
      case rel =>
       refine ⟨j + 1, A6, c6, out, by omega, by go_num, ?_, hN6.toPiecesAt.put hSl6, .inr ((hN6.own.since ?_) |> Only.own (.put off A6 out.length c6 (.refl w6)) BV6 (by decide)), Lib.hid ⟨hLo, fun t => ?_⟩, (hC6.ext hb6).put hSl6, .put off A6 out.length c6 (hO6.ext hb6)⟩
       ·have h5 := BV6.set_ off (.slice A6 out.length c6)
        rwa [set_twice] at h5
       ·have h6 := hO2.size
        simp
        omega
       ·rw [HAT.out, HCV.out, cellStep, if_pos HPB.out]
        unfold putM
        rw [HI4.out.2 t]
        rfl
      case measure => simp [intOf]; omega
     | true =>
      rw [hhas] at x3
      by_cases hvs : x.v < x.s
      case pos =>
       have HPB : Hid (putB x = true) := Lib.hid (by simp [putB, hvs])
       clear hhas
       go_wp2_with fail
       have hal : Below wr.heap.size wr (wr.alloc (Obj.cells #[.int .i64 x.f, .int .i64 x.t, .int .i64 x.s, .bool true, .int .i64 x.v] 221)).drew := below_drew (ext_alloc (Below.refl _ _) _)
       have BC := (Blk.new wr 221 #[.int .i64 x.f, .int .i64 x.t, .int .i64 x.s, .bool true, .int .i64 x.v]).drew
       have BVd := BV.ext hal
       obtain ⟨S0, hSS⟩ : ∃ S0 : World → Prop, Hid (S0 = fun w' => w'.cell? ⟨gv, off, none⟩ = some (.slice A4 M.length c4) ∧ w'.cell? ⟨wr.heap.size, 0, none⟩ = some (.int .i64 x.f) ∧ w'.cell? ⟨wr.heap.size, 1, none⟩ = some (.int .i64 x.t) ∧ w'.cell? ⟨wr.heap.size, 4, none⟩ = some (.int .i64 x.v)) := ⟨_, Lib.hid rfl⟩
       have hS0 : S0 (wr.alloc (Obj.cells #[.int .i64 x.f, .int .i64 x.t, .int .i64 x.s, .bool true, .int .i64 x.v] 221)).drew := by
        rw [hSS.out]
        exact ⟨(BVd.cell off).trans (Array.getElem?_setIfInBounds_self_of_lt (by omega)), by rw [BC.cell]; rfl, by rw [BC.cell]; rfl, by rw [BC.cell]; rfl⟩
       have hput := imapPut_any A4 c4 M ⟨x.f, x.t, x.v⟩ _ (hM4.ext hal)
       have hC6 := hC4.ext hal
       have hO6 := hO4.ext hal
       clear x0 x1 x2 x3 x4 hM4 hN4 hC4 hO4
       refine WpE.begin (S := S0) 18 (by kernel_rfl) ?_
       refine tE 0 ?_ ?_ <| tE 1 ?_ ?_ <| tE 2 ?_ ?_ <| tE 3 ?_ ?_ <| tE 4 ?_ ?_ <| tE 5 ?_ ?_ <| tE 6 ?_ ?_ <| tE 7 ?_ ?_ <| tE 8 ?_ ?_ <| tE 9 ?_ ?_ <| tE 10 ?_ ?_ <| tE 11 ?_ ?_ ?_
       iterate 12
        rotate_left
        ·intro w hSw; rw [hSS.out] at hSw; obtain ⟨sw0, sw1, sw2, sw3⟩ := hSw; (try simp only [pS]); go_simp; try with_reducible rfl
       try simp only [pS]
       refine WpE.one (i := 12) rfl (by kernel_rfl) fun K hK => ?_
       go_wp2_with fail
       refine hput.mono ?_
       rintro e w6 ⟨ep, out, A6, c6, HPS, rfl, hN6, hb6⟩
       have BV6 := BVd.ext hb6
       have BC6 := BC.ext hb6
       have hS6 : S0 w6 := by
        rw [hSS.out]
        exact ⟨(BV6.cell off).trans (Array.getElem?_setIfInBounds_self_of_lt (by omega)), by rw [BC6.cell]; rfl, by rw [BC6.cell]; rfl, by rw [BC6.cell]; rfl⟩
       refine hK.out _ _ ⟨fun _ => hS6, ?_⟩
       clear hK K hput hS0
       try simp only [pS]
       refine tE 13 ?_ ?_ <| tE 14 ?_ ?_ ?_
       iterate 2
        rotate_left
        ·intro w hSw; rw [hSS.out] at hSw; obtain ⟨sw0, sw1, sw2, sw3⟩ := hSw; (try simp only [pS]); go_simp; try with_reducible rfl
       try simp only [pS]
       refine WpE.freeD (i := 15) (v := ?_) rfl rfl (by kernel_rfl) (fun _ _ _ h => h) (Or.inl ⟨by rfl, ?_⟩) (by assumption) ?_
       rotate_left
       ·intro w hSw; clear hSw; go_simp; try with_reducible rfl
       try simp only [pS]
       refine WpE.freeD (i := 16) (v := ?_) rfl rfl (by kernel_rfl) (fun _ _ _ h => h) (Or.inl ⟨by rfl, ?_⟩) (by assumption) ?_
       rotate_left
       ·intro w hSw; clear hSw; go_simp; try with_reducible rfl
       try simp only [pS]
       refine WpE.freeD (i := 17) (v := ?_) rfl rfl (by kernel_rfl) (fun _ _ _ h => h) (Or.inl ⟨by rfl, ?_⟩) (by assumption) ?_
       rotate_left
       ·intro w hSw; clear hSw; go_simp; try with_reducible rfl
       try simp only [pS]
       refine WpE.one (i := 18) rfl (by kernel_rfl) fun K hK => ?_
       have y2 : w6.frozen? ⟨gv, off, none⟩ = false := BV6.frozen _
       have y3 := BV6.lt
       have hcell6 : w6.cell? ⟨gv, off, none⟩ = some (.slice A4 M.length c4) := (BV6.cell off).trans (Array.getElem?_setIfInBounds_self_of_lt (by omega))
       go_wp2_with fail
       refine hK.out _ _ ⟨fun h => by first | (exact absurd h (by decide)) | (simp at h), ?_⟩
       refine WpE.done (by kernel_rfl) ?_ _
       clear hK K hSS hS6 S0 BVd BC BC6 y2 y3 hcell6
       obtain ⟨hep, hLo, hat⟩ := put_zero HI4.out.1 hh1 hh2 HIX.out HPS.out
       have HAT := Lib.hid hat
       clear hat hep
       have hSl6 := (hO6.ext hb6).slices HSL2.out
       go_wp2_with fail
       go_roundw
       case rel =>
        refine ⟨j + 1, A6, c6, out, by omega, by go_num, ?_, hN6.toPiecesAt.put hSl6, .inr ((hN6.own.since ?_) |> Only.own (.put off A6 out.length c6 (.refl w6)) BV6 (by decide)), Lib.hid ⟨hLo, fun t => ?_⟩, (hC6.ext hb6).put hSl6, .put off A6 out.length c6 (hO6.ext hb6)⟩
        ·have h5 := BV6.set_ off (.slice A6 out.length c6)
         rwa [set_twice] at h5
        ·have h6 := hO2.size
         simp
         omega
        ·rw [HAT.out, HCV.out, cellStep, if_pos HPB.out]
         unfold putM
         rw [HI4.out.2 t]
         rfl
       case measure => simp [intOf]; omega
      case neg =>
       have HPB : Hid (¬ putB x = true) := Lib.hid (by simp [putB, hhas]; omega)
       clear hhas
       go_wp2_with fail
       have hal : Below wr.heap.size wr (wr.alloc (Obj.cells #[.int .i64 x.f, .int .i64 x.t, .int .i64 x.s, .bool true, .int .i64 x.v] 221)) := ext_alloc (Below.refl _ _) _
       go_roundw
       case rel => exact ⟨j + 1, A4, c4, M, by omega, by go_num, BV.ext hal, hM4.ext hal, hN4.only (.of_below hal) BV (by decide), Lib.hid ⟨HI4.out.1, fun t => by rw [HI4.out.2 t, HCV.out, cellStep, if_neg HPB.out]⟩, hC4.ext hal, hO4.ext hal⟩
       case measure => simp [intOf]; omega
end Go.Proofs.YtjcimdpldlamfaaGreatDoor
/- A run's start, its rounds and its end; no program in sight. -/
namespace Go.Proofs.YtjcimdpldlamfaaGreatDoor

def startBOf (p v : Int) (i : Nat) (l : IvlD) : List PieceD := if p = 3 then [⟨l.f, l.t, i⟩] else if (i : Int) = v then [⟨l.f, l.t, 0⟩] else []
def startB (g : GraphD) (p v : Int) : List (List PieceD) := g.lives.mapIdx (startBOf p v)
/-- All maps behind a round. -/
structure Step (g : GraphD) (p : Int) (sts F sts' F' : List (List PieceD)) : Prop where
 len : sts'.length = g.lives.length
 lenF : F'.length = g.lives.length
 at_ : ∀ (i : Nat) m m' f', sts[i]? = some m → sts'[i]? = some m' → F'[i]? = some f' → Lies g.h m' ∧ (∀ t, val m' t = minAt (boxL (sendL g p F) i) t (val m t)) ∧ FreshIs g.h m' (val m) f'
section
variable {p v t : Int} {k i : Nat} {g : GraphD} {sts F sts' F' : List (List PieceD)} {was : Nat → Int → Int} {m m' : List PieceD} {l : IvlD}
theorem startB_len : (startB g p v).length = g.lives.length := by simp [startB]
theorem startB_get (h : g.lives[i]? = some l) : (startB g p v)[i]? = some (startBOf p v i l) := by simp [startB, List.getElem?_mapIdx, h]
theorem lies_single {h : Int} {x : PieceD} (h1 : 0 ≤ x.f ∧ x.f < x.t ∧ x.t ≤ h) (h2 : 0 ≤ x.v ∧ x.v ≤ 100000) : Lies h [x] :=
 ⟨⟨List.pairwise_singleton _ _, fun y hy => by obtain rfl := List.mem_singleton.1 hy; exact h1.2.1⟩, fun y hy => by obtain rfl := List.mem_singleton.1 hy; exact ⟨⟨h1.1, h1.2.2⟩, h2⟩⟩
theorem val_single {x : PieceD} : val [x] t = if x.f ≤ t ∧ t < x.t then x.v else Far := by
 unfold val atM
 split <;> rfl
theorem startB_lies (hV : Valid g) (h : g.lives[i]? = some l) : Lies g.h (startBOf p v i l) := by
 have h1 := hV.lives l (List.mem_of_getElem? h)
 have h2 := (List.getElem?_eq_some_iff.1 h).1
 have h3 := hV.nl
 unfold startBOf
 split
 ·exact lies_single h1 ⟨by show (0 : Int) ≤ i; omega, by show (i : Int) ≤ 100000; omega⟩
 ·split
  ·exact lies_single h1 ⟨by show (0 : Int) ≤ 0; omega, by show (0 : Int) ≤ 100000; omega⟩
  ·exact Lies.nil
theorem startB_val (h : g.lives[i]? = some l) : val (startBOf p v i l) t = if aliveB g i t = true ∧ p = 3 then (i : Int) else if aliveB g i t = true ∧ (i : Int) = v then 0 else Far := by
 have ha : aliveB g (i : Int) t = decide (l.f ≤ t ∧ t < l.t) := aliveB_of (by rw [Int.toNat_natCast]; exact h)
 rw [ha]
 unfold startBOf
 by_cases h1 : p = 3
 ·rw [if_pos h1, val_single]
  by_cases h2 : l.f ≤ t ∧ t < l.t <;> simp [h1, h2]
 ·rw [if_neg h1]
  by_cases h3 : (i : Int) = v
  ·rw [if_pos h3, val_single]
   by_cases h2 : l.f ≤ t ∧ t < l.t <;> simp [h1, h2, h3]
  ·rw [if_neg h3]
   simp [h1, h3, val, atM]
theorem startB_mid (hV : Valid g) (p v : Int) : BMid g p v 0 (startB g p v) (startB g p v) (fun _ _ => Far) := by
 have hg : ∀ (i : Nat) m, (startB g p v)[i]? = some m → ∃ l, g.lives[i]? = some l ∧ m = startBOf p v i l := fun i m hm => by
  obtain ⟨l, hl⟩ := get_lt (show i < g.lives.length by
   have := (List.getElem?_eq_some_iff.1 hm).1
   rwa [startB_len] at this)
  rw [startB_get hl] at hm
  exact ⟨l, hl, (Option.some.inj hm).symm⟩
 refine ⟨⟨startB_len, startB_len, fun m hm => ?_, fun i m hm t hne => ?_, fun i m f h1 h2 => ?_⟩, .inl fun _ _ => rfl, fun t _ _ => ?_, .inl rfl⟩
 ·obtain ⟨i, hi⟩ := List.getElem?_of_mem hm
  obtain ⟨l, hl, rfl⟩ := hg i m hi
  exact startB_lies hV hl
 ·obtain ⟨l, hl, rfl⟩ := hg i m hm
  have hx := startB_val (p := p) (v := v) (t := t) hl
  cases ha : aliveB g i t with
  | true => rfl
  | false =>
   rw [ha] at hx
   rcases (startB_lies (p := p) (v := v) hV hl).val_cases t with ⟨_, h2⟩ | ⟨h1, _⟩
   ·exact absurd h2 hne
   ·rw [hx] at h1
    simp [Far] at h1
 ·rw [h1] at h2
  obtain rfl := Option.some.inj h2
  obtain ⟨l, hl, rfl⟩ := hg i m h1
  exact fresh_first (startB_lies hV hl)
 ·have e : dAt (startB g p v) t = initAt g p v t := funext fun i => by
   rcases Nat.lt_or_ge i g.lives.length with h | h
   ·obtain ⟨l, hl⟩ := get_lt h
    rw [dAt_of (startB_get hl), startB_val hl]
    unfold initAt begunD
    rw [gi_range (show i < (snapD g t).alive.length by rw [show (snapD g t).alive = snapL g t from rfl, snapL_len]; exact h)]
    rw [show (snapD g t).alive = snapL g t from rfl, snapL_get h]
    simp
   ·rw [dAt_far (by rw [startB_len]; exact h)]
    unfold initAt begunD
    rw [gi_range_far (by rw [show (snapD g t).alive = snapL g t from rfl, snapL_len]; exact h)]
  rw [e]
  exact .zero
theorem BMid.few (hM : BMid g p v k sts F was) (hV : Valid g) : k ≤ g.lives.length := by
 rcases hM.last with rfl | ⟨t, d, ht, j, rfl, hd, hne⟩
 ·exact Nat.zero_le _
 ·have h1 := hM.at_ t ht.1 ht.2
  cases h1 with
  | succ h2 hb =>
   obtain rfl := hd.eq h2
   obtain ⟨u, hu⟩ : ∃ u, dAt sts t u ≠ d u := Classical.byContradiction fun hn => hne (funext fun u => Classical.byContradiction fun h3 => hn ⟨u, fun h4 => h3 h4.symm⟩)
   exact BfN.few (adds hV p t) (fun i => (init_val hV i).1) hd hb hu
theorem Step.all (hs : Step g p sts F sts' F') (hS : States g sts F was) (h : sts'[i]? = some m') : ∃ m f', sts[i]? = some m ∧ F'[i]? = some f' ∧ Lies g.h m' ∧ (∀ t, val m' t = minAt (boxL (sendL g p F) i) t (val m t)) ∧ FreshIs g.h m' (val m) f' := by
 have hi : i < g.lives.length := by
  have := (List.getElem?_eq_some_iff.1 h).1
  rwa [hs.len] at this
 obtain ⟨m, hm⟩ := get_lt (show i < sts.length by rw [hS.len]; exact hi)
 obtain ⟨f, hf⟩ := get_lt (show i < F'.length by rw [hs.lenF]; exact hi)
 exact ⟨m, f, hm, hf, hs.at_ i m m' f hm h hf⟩
theorem Step.states (hs : Step g p sts F sts' F') (hS : States g sts F was) (hV : Valid g) : States g sts' F' (fun i t => dAt sts t i) := by
 refine ⟨hs.len, hs.lenF, fun m' hm' => ?_, fun i m' hm' t hne => ?_, fun i m' f' hm' hf' => ?_⟩
 ·obtain ⟨i, hi⟩ := List.getElem?_of_mem hm'
  obtain ⟨_, _, _, _, h3, _⟩ := hs.all hS hi
  exact h3
 ·obtain ⟨m, f, h1, _, h3, h4, _⟩ := hs.all hS hm'
  have hx : val m' t ≤ 100000 := by
   rcases h3.val_cases t with ⟨_, k2⟩ | ⟨k1, _⟩
   ·exact absurd k2 hne
   ·exact k1
  rw [h4 t] at hx
  rcases minAt_from (l := boxL (sendL g p F) i) (t := t) (d := val m t) with h5 | ⟨x, hx2, hp, _⟩
  ·rw [h5] at hx
   refine hS.alive i m h1 t fun hn => ?_
   rw [val_none hn] at hx
   unfold Far at hx
   omega
  ·obtain ⟨_, _, h6⟩ := hS.mail hV (mem_box.1 hx2)
   simp only [inP, decide_eq_true_eq] at hp
   exact (h6 t hp.1 hp.2).2.2
 ·obtain ⟨m, f2, h1, h2, _, _, h5⟩ := hs.all hS hm'
  rw [hf'] at h2
  obtain rfl := Option.some.inj h2
  have e : (fun t => dAt sts t i) = val m := funext fun t => dAt_of h1
  show FreshIs g.h m' (fun t => dAt sts t i) f'
  rw [e]
  exact h5
theorem BMid.next (hM : BMid g p v k sts F was) (hV : Valid g) (hs : Step g p sts F sts' F') (hn : ∃ f, f ∈ F' ∧ f ≠ []) : k + 1 ≤ g.lives.length ∧ BMid g p v (k + 1) sts' F' (fun i t => dAt sts t i) := by
 have hr := fun t => hM.st.round hV hM.was hs.len (fun i m m' h1 h2 => by
  obtain ⟨m2, _, h3, _, _, h4, _⟩ := hs.all hM.st h2
  rw [h1] at h3
  obtain rfl := Option.some.inj h3
  exact h4) t
 obtain ⟨f, hf, hne⟩ := hn
 obtain ⟨i, hi⟩ := List.getElem?_of_mem hf
 have hil : i < g.lives.length := by
  have := (List.getElem?_eq_some_iff.1 hi).1
  rwa [hs.lenF] at this
 obtain ⟨m', hm'⟩ := get_lt (show i < sts'.length by rw [hs.len]; exact hil)
 obtain ⟨m, f2, h1, h2, _, _, h5⟩ := hs.all hM.st hm'
 rw [hi] at h2
 obtain rfl := Option.some.inj h2
 obtain ⟨q, f3, rfl⟩ := List.exists_cons_of_ne_nil hne
 have hq2 := h5.in_ q (by simp)
 have hq := h5.tells q (by simp) q.f (Int.le_refl _) hq2.1.2.1
 have hlt : dAt sts' q.f i ≠ dAt sts q.f i := by
  rw [dAt_of hm', dAt_of h1]
  have h6 := hq.1
  have h7 := hq.2
  omega
 have hqh : 0 ≤ q.f ∧ q.f < g.h := ⟨hq2.1.1, by have := hq2.1; omega⟩
 have hat := hM.at_ q.f hqh.1 hqh.2
 exact ⟨BfN.few (adds hV p q.f) (fun i => (init_val hV i).1) hat (hr q.f) hlt, hs.states hM.st hV, .inr hr, fun t h0 h1 => .succ (hM.at_ t h0 h1) (hr t), .inr ⟨q.f, dAt sts q.f, hqh, k, rfl, hat, fun e => hlt (by rw [e])⟩⟩
theorem BMid.done (hM : BMid g p v k sts F was) (hV : Valid g) (hs : Step g p sts F sts' F') (hn : ∀ f, f ∈ F' → f = []) : sts' = sts ∧ RunSay g p v k sts := by
 have key : ∀ (i : Nat) m m', sts[i]? = some m → sts'[i]? = some m' → m' = m ∧ ∀ t, minAt (boxL (sendL g p F) i) t (val m t) = val m t := fun i m m' h1 h2 => by
  obtain ⟨m2, f, h3, h4, h5, h6, h7⟩ := hs.all hM.st h2
  rw [h1] at h3
  obtain rfl := Option.some.inj h3
  obtain rfl := hn f (List.mem_of_getElem? h4)
  have he : ∀ t, val m' t = val m t := fun t => by
   have h8 : val m' t ≤ val m t := by rw [h6 t]; exact minAt_le
   rcases Int.lt_or_le (val m' t) (val m t) with h9 | h9
   ·obtain ⟨q, hq, _⟩ := h7.all t h9
    simp at hq
   ·omega
  exact ⟨h5.eq (hM.st.lies m (List.mem_of_getElem? h1)) he, fun t => by rw [← h6 t]; exact he t⟩
 refine ⟨List.ext_getElem? fun i => ?_, hM.fin hV (hM.few hV) fun i m hm t => ?_⟩
 ·rcases Nat.lt_or_ge i g.lives.length with h | h
  ·obtain ⟨m, hm⟩ := get_lt (show i < sts.length by rw [hM.st.len]; exact h)
   obtain ⟨m', hm'⟩ := get_lt (show i < sts'.length by rw [hs.len]; exact h)
   rw [hm, hm', (key i m m' hm hm').1]
  ·rw [List.getElem?_eq_none (by rw [hs.len]; exact h), List.getElem?_eq_none (by rw [hM.st.len]; exact h)]
 ·obtain ⟨m', hm'⟩ := get_lt (show i < sts'.length by
   have := (List.getElem?_eq_some_iff.1 hm).1
   rw [hM.st.len] at this
   rw [hs.len]; exact this)
  exact (key i m m' hm hm').2 t
end
end Go.Proofs.YtjcimdpldlamfaaGreatDoor
