/- One text: RefRead. -/
import Derived.Deep.DeepCutAuto
import Derived.Test.YtdpibehpmghghaaDoorBd54efbdf57c
import Derived.Test.YtdpibehpmghghaaDoorBdd843784b0d
import Derived.Test.YtdpibehpmghghaaDoorBdc5e2eb838a
import Derived.Test.YtdpibehpmghghaaDoorBd116ff3bb84
/- The walk of the document's ReadGraph (printed by genrefread.py). -/
namespace Go.Proofs.YtdpibehpmghghaaDoor
open Go.RowKit

/-- What the switch of a line is to make of it. -/
def LineFact (l : List UInt8) (P : List (List UInt8)) (k m : Nat) (g : GraphD) (v : List UInt8) (nl : List Int) (o : Bool) : Prop :=
  (o = true → k < m ∧ parseD l = (match stepN g v nl with | none => (noG, (k : Int) + 1, 3) | some g' => readOut (k + 1) g' (P.drop (k + 1)))) ∧ (o = false → parseD l = (noG, (k : Int) + 1, 3))
theorem LineFact.none {l : List UInt8} {P : List (List UInt8)} {k m : Nat} {g : GraphD} {v : List UInt8} {nl : List Int} {o : Bool} (h : LineFact l P k m g v nl o) (hs : stepN g v nl = none) : parseD l = (noG, (k : Int) + 1, 3) := by
  cases o with
  | false => exact h.2 rfl
  | true => rw [(h.1 rfl).2, hs]
theorem LineFact.some {l : List UInt8} {P : List (List UInt8)} {k m : Nat} {g g' : GraphD} {v : List UInt8} {nl : List Int} (h : LineFact l P k m g v nl true) (hs : stepN g v nl = some g') : k < m ∧ parseD l = readOut (k + 1) g' (P.drop (k + 1)) := by
  refine ⟨(h.1 rfl).1, ?_⟩
  rw [(h.1 rfl).2, hs]
theorem gOf_eq {h : Int} {lv : List IvlD} {i j : List EItem} : (gOf h lv (i ++ j)) = (⟨h, lv, i.map Prod.fst ++ j.map Prod.fst⟩ : GraphD) := by simp [gOf]
theorem numsQ_bad {ws : List (List UInt8)} {n : List Int} (h : numsQ ws = (n, false)) : n = [] ∧ numsB ws = none := by
  unfold numsQ at h
  split at h
  · simp at h
  · next hn => simp only [Prod.mk.injEq, and_true] at h; exact ⟨h.symm, hn⟩
theorem numsQ_good {ws : List (List UInt8)} {n : List Int} (h : numsQ ws = (n, true)) : numsB ws = some n := by
  unfold numsQ at h
  split at h
  · next n' hn => simp only [Prod.mk.injEq, and_true] at h; rw [hn, h]
  · simp at h
theorem read_at {P init : List (List UInt8)} {last x : List UInt8} {k : Nat} (hP : P = init ++ [last]) (hk : k < init.length) (hx : P[k]? = some x) : ∃ q ps, P.drop k = x :: q :: ps ∧ P.drop (k + 1) = q :: ps := by
  have h1 := drop_cons hx
  have hl : k + 1 < P.length := by rw [hP]; simp; omega
  obtain ⟨q, hq⟩ := get_lt hl
  have h2 := drop_cons hq
  exact ⟨q, P.drop (k + 1 + 1), by rw [h1, h2], h2⟩
/-- A line's fact, from what its words and numbers are. -/
theorem line_fact {l v x : List UInt8} {P init : List (List UInt8)} {last : List UInt8} {ws : List (List UInt8)} {nl : List Int} {k : Nat} {g : GraphD} {nok zb : Bool} (hP : P = init ++ [last]) (hx : P[k]? = some x) (hv : piecesB 32 x = v :: ws) (hp : parseD l = readOut k g (P.drop k)) (hq : numsQ ws = (nl, nok))
    (hz : zb = true → k < init.length) (hz2 : zb = false → parseD l = (noG, (k : Int) + 1, 3)) : LineFact l P k init.length g v nl (nok && zb && (decide (k = 0) == (v == [116, 105, 109, 101]))) := by
  have ht : (v == [116, 105, 109, 101]) = decide (v = wTime) := by
    rw [Bool.eq_iff_iff, decide_eq_true_eq]; simp [wTime]
  cases zb with
  | false => exact ⟨fun h => by simp at h, fun _ => hz2 rfl⟩
  | true =>
    obtain ⟨q, ps, h1, h2⟩ := read_at hP (hz rfl) hx
    rw [h1, readOut, hv] at hp
    simp only [stepG] at hp
    cases nok with
    | false =>
      rw [(numsQ_bad hq).2] at hp
      exact ⟨fun h => by simp at h, fun _ => hp⟩
    | true =>
      rw [numsQ_good hq] at hp
      simp only [Bool.true_and]
      rw [ht]
      simp only at hp
      refine ⟨fun h => ⟨hz rfl, ?_⟩, fun h => ?_⟩
      · rw [if_pos (by simpa using h)] at hp
        rw [hp, h2]
        cases stepN g v nl <;> rfl
      · rw [if_neg (by simpa using h)] at hp
        exact hp
set_option maxRecDepth 100000 in
set_option maxHeartbeats 32000000 in
theorem refRead_any (l : List UInt8) (w : World) (hl : l.length ≤ 9223372036854775807) : Calls Tryd.prog 18 #[.string (bs l)] w (ParseOut (parseD l) w) := by
  have hsz := bs_size l
  by_cases h1 : 8192 < l.length
  case pos =>
    have HP : Hid (parseD l = (noG, 0, 2)) := Lib.hid (by unfold parseD; rw [if_pos h1])
    have hd : decide ((l.length : Int) > 8192) = true := by simp; omega
    have B0 := Blk.new w 25 #[.int .i64 0, .slice none 0 0, .slice none 0 0]
    obtain ⟨c1, c2, c3⟩ := B0.facts
    clear h1 hsz
    go_enter Tryd.func18, Tryd.ntmps18
    go_wp2_with fail
    refine bodyPost_ret (v := .tuple #[gV none 0 none 0 noG, .int .i64 0, .int .i64 2]) (by simp [results, Tryd.results18, go_sem, c1]) rfl ?_
    rw [HP.out]
    exact ⟨none, 0, none, 0, rfl, noG_at _, by go_grown⟩
  have hl8 : l.length ≤ 8192 := by omega
  obtain ⟨P, hPd⟩ : ∃ P, piecesB 10 l = P := ⟨_, rfl⟩
  have hPs := pieces_short 10 l
  rw [hPd] at hPs
  have HP : Hid (parseD l = readOut 0 noG P) := Lib.hid (by unfold parseD; rw [if_neg h1, hPd])
  have hd : decide ((l.length : Int) > 8192) = false := by simp; omega
  have hpc := fun W => refPieces_any l 10 W (by omega)
  rw [hPd] at hpc
  obtain ⟨init, last, hPi⟩ := pieces_last 10 l
  rw [hPd] at hPi
  have HPS : Hid (∀ x, x ∈ P → x.length ≤ 8192) := Lib.hid fun x hx => Nat.le_trans (hPs.1 x hx) hl8
  have hil : init.length ≤ 8192 := by have := hPs.2; rw [hPi, List.length_append] at this; simp at this; omega
  have HPI := Lib.hid hPi
  have hPl : P.length = init.length + 1 := by rw [hPi]; simp
  have hpc2 : ∀ W : World, Calls Tryd.prog 44 #[.string (bs l), .int .u8 10] W fun e w' => ∃ g c, e = .returned (.slice (some ⟨g, 0, none⟩) (init.length + 1) c) ∧ Own strEnc 1 w' W.heap.size 9 (.slice (some ⟨g, 0, none⟩) (init.length + 1) c) P ∧ Below W.heap.size W w' := fun W =>
    (hpc W).mono fun e w' ⟨g, c, h1, h2, h3⟩ => ⟨g, c, by rw [← hPl]; exact h1, by rw [← hPl]; exact h2, h3⟩
  have HPC := Lib.hid hpc2
  clear h1 hsz hl hPs hPd hpc hpc2 hPi
  go_enter Tryd.func18, Tryd.ntmps18
  go_wp2_with fail
  refine (HPC.out _).mono ?_
  rintro e w1 ⟨gp, cp, rfl, hO1, hb1⟩
  have hgp : w.heap.size + 1 ≤ gp := by
    obtain ⟨_, h, _⟩ := hO1.cells strEnc_len
    simpa using h
  obtain ⟨hqq, _, hpc1, hpc2, csP, BP, _, hrow⟩ := hO1.cells strEnc_len
  rw [hPl] at hpc1
  clear hqq
  have hpc2 : cp ≤ 9223372036854775807 := hpc2
  have HCP : Hid (∀ k x, P[k]? = some x → csP[k]? = some (Value.string (bs x))) := Lib.hid fun k x hx => by have := hrow k x hx 0 (by decide); simpa [strEnc] using this
  have BR : Blk w1 w.heap.size 25 #[.int .i64 0, .slice none 0 0, .slice none 0 0] := (Blk.new w _ _).ext hb1
  have hbw : Below w.heap.size w w1 := ext_trans (by go_grown) hb1
  have hlast : csP[init.length]? = some (.string (bs last)) := HCP.out _ _ (by rw [HPI.out]; simp)
  have hiw : IntKind.i64.wrap (init.length : Int) = init.length := IntWalk.i64_in _ (by omega)
  have hjl : init.length < init.length + 1 := by omega
  have hjz : (init.length : Int) < (init.length : Int) + 1 := by omega
  obtain ⟨c1, c2, c3⟩ := BP.facts
  have hz1 := hbw.size
  have HPL := Lib.hid hPl
  clear hrow hO1 hb1 hPl
  obtain ⟨wh, hwh⟩ : ∃ wh, decide (last = [] ∧ 0 < init.length) = wh := ⟨_, rfl⟩
  have HWH := Lib.hid hwh
  clear hwh
  go_upto_region 4 with fail
  go_cut [6] from 21 to 32 (fun x6 wx => x6 = .bool wh ∧ wx = w1)
  case first =>
    rcases Nat.eq_zero_or_pos init.length with hi0 | hi0
    case inl =>
      have hg : decide ((init.length : Int) + 1 > 1) = false := by simp; omega
      obtain rfl : wh = false := by rw [← HWH.out]; simp only [decide_eq_false_iff_not]; omega
      clear hi0
      cases last with
      | nil =>
        go_wp2_with fail
        go_meet
        case rel => exact ⟨rfl, rfl⟩
      | cons x r =>
        go_wp2_with fail
        go_meet
        case rel => exact ⟨rfl, rfl⟩
    case inr =>
      have hg : decide ((init.length : Int) + 1 > 1) = true := by simp; omega
      cases last with
      | nil =>
        obtain rfl : wh = true := by rw [← HWH.out]; simp only [decide_eq_true_eq]; exact ⟨trivial, hi0⟩
        go_wp2_with fail
        go_meet
        case rel => exact ⟨rfl, rfl⟩
      | cons x r =>
        obtain rfl : wh = false := by have := HWH.out; rw [← this]; simp
        go_wp2_with fail
        go_meet
        case rel => exact ⟨rfl, rfl⟩
  case rest =>
  obtain ⟨rfl, rfl⟩ := hcut
  go_upto_if 33 with fail
  go_cut [5] from 33 to 38 (fun x5 wx => ∃ (n5 : Nat), x5 = .slice (some ⟨gp, 0, none⟩) n5 cp ∧ wx = wc ∧ Hid ((wh = true → n5 = init.length ∧ last = [] ∧ 0 < init.length) ∧ (wh = false → n5 = init.length + 1 ∧ ¬ (last = [] ∧ 0 < init.length))) ∧ n5 ≤ init.length + 1)
  case first =>
    cases wh with
    | true =>
      have hw2 : last = [] ∧ 0 < init.length := by have := HWH.out; simpa using this
      go_wp2_with fail
      go_meet
      case rel => exact ⟨init.length, rfl, rfl, Lib.hid ⟨fun _ => ⟨rfl, hw2.1, hw2.2⟩, fun h => (by cases h)⟩, by omega⟩
    | false =>
      have hw2 : ¬ (last = [] ∧ 0 < init.length) := by have := HWH.out; simpa using this
      go_wp2_with fail
      go_meet
      case rel => exact ⟨init.length + 1, rfl, rfl, Lib.hid ⟨fun h => (by cases h), fun _ => ⟨rfl, hw2⟩⟩, Nat.le_refl _⟩
  case rest =>
  obtain ⟨n5, rfl, rfl, HW, hn5⟩ := hcut
  clear c1 c2 c3 hlast hiw hjl hjz
  obtain ⟨gx, hgx⟩ : ∃ gx, gx = wc.heap.size := ⟨_, rfl⟩
  have M0 := GMem.new wc gx hgx 0
  have B0 := BR.alloc (Obj.cells #[.int .i64 0, .slice none 0 0, .slice none 0 0] 25)
  have BP0 := BP.alloc (Obj.cells #[.int .i64 0, .slice none 0 0, .slice none 0 0] 25)
  have hbw0 := ext_alloc hbw (Obj.cells #[.int .i64 0, .slice none 0 0, .slice none 0 0] 25)
  have hwx : w.heap.size < gx := by have := BR.lt; omega
  go_wp2_with fail
  rw [← hgx]
  clear hgx
  go_loopw [8] (fun at_ wr => ∃ (k : Nat) (h : Int) (vl ve : Value) (lv : List IvlD) (items : List EItem), at_ = .int .i64 k ∧ k ≤ init.length ∧ GMem wr gx k h vl ve lv items ∧ Blk wr w.heap.size 25 #[.int .i64 0, .slice none 0 0, .slice none 0 0] ∧ Blk wr gp 9 csP ∧ Below w.heap.size w wr ∧ Hid (parseD l = readOut k (gOf h lv items) (P.drop k))) (fun at_ _ => init.length + 1 - (intOf at_).toNat)
  case atStart => exact ⟨0, 0, _, _, [], [], rfl, Nat.zero_le _, M0, B0, BP0, hbw0, HP⟩
  case round =>
    clear M0 B0 BP0 hbw0 BR BP hbw
    obtain ⟨k, h, vl, ve, lv, items, rfl, hk, M, BR, BP, hb, HI⟩ := hrel
    obtain ⟨A, cA, A', cA', rfl, rfl, hG⟩ := M.at_
    by_cases hlt : k < n5
    case neg =>
      have hwt : wh = true := by
        cases wh with
        | true => rfl
        | false => have := (HW.out.2 rfl).1; omega
      have hk0 : k = init.length ∧ last = [] ∧ 0 < k := by
        have h9 := HW.out.1 hwt
        exact ⟨by omega, h9.2.1, by omega⟩
      have HE : Hid (parseD l = finG (gOf h lv items)) := Lib.hid (by
        rw [HI.out, HPI.out, hk0.1, List.drop_left, hk0.2.1]
        exact readOut_end (by omega))
      obtain ⟨p1, p2, p3⟩ := M.gr.facts
      have hck := refGraph_any A A' cA cA' (gOf h lv items) wr hG
      rw [gOf_v] at hck
      clear HI hk0
      go_wp2_with fail
      refine hck.mono ?_
      clear hck
      rintro e w5 ⟨rfl, hb5⟩
      have hbw := ext_trans hb hb5
      obtain ⟨c1, c2, c3⟩ := (BR.ext hb5).facts
      obtain ⟨p1, p2, p3⟩ := (M.gr.ext hb5).facts
      by_cases h0 : graphErr (gOf h lv items) = 0
      · have HF : Hid (parseD l = (gOf h lv items, 0, 0)) := Lib.hid (by rw [HE.out]; unfold finG; rw [if_pos h0])
        rw [h0]
        clear h0 HE
        go_wp2_with fail
        refine bodyPost_ret (v := .tuple #[.agg #[.int .i64 h, .slice A lv.length cA, .slice A' items.length cA'], .int .i64 0, .int .i64 0]) (by simp [results, Tryd.results18, go_sem, c1]) rfl ?_
        rw [HF.out]
        exact ⟨A, cA, A', cA', by rw [gOf_v], (M.ext hb5).told (BR.ext hb5) _ _ _, ((hbw.setCell (Nat.le_refl _) _).setCell (Nat.le_refl _) _).setCell (Nat.le_refl _) _⟩
      · have HF : Hid (parseD l = (noG, 0, graphErr (gOf h lv items))) := Lib.hid (by rw [HE.out]; unfold finG; rw [if_neg h0])
        have hn : (graphErr (gOf h lv items) != 0) = true := by simp [h0]
        clear h0 HE
        obtain ⟨er, her⟩ : ∃ er, graphErr (gOf h lv items) = er := ⟨_, rfl⟩
        rw [her] at hn HF ⊢
        clear her
        go_wp2_with fail
        refine bodyPost_ret (v := .tuple #[gV none 0 none 0 noG, .int .i64 0, .int .i64 er]) (by simp [results, Tryd.results18, go_sem, c1]) rfl ?_
        rw [HF.out]
        exact ⟨none, 0, none, 0, rfl, noG_at _, ((hbw.setCell (Nat.le_refl _) _).setCell (Nat.le_refl _) _).setCell (Nat.le_refl _) _⟩
    case pos =>
      have hkP : k < P.length := by rw [HPL.out]; omega
      obtain ⟨x, hx⟩ := get_lt hkP
      have hxl := HPS.out x (List.mem_of_getElem? hx)
      have hcx := HCP.out k x hx
      obtain ⟨v, ws, hv⟩ := pieces_form 32 x
      have hps := pieces_short 32 x
      rw [hv] at hps
      simp only [List.length_cons] at hps
      have hsp := fun W => refPieces_any x 32 W (by omega)
      rw [hv] at hsp
      have hsp2 : ∀ W : World, Calls Tryd.prog 44 #[.string (bs x), .int .u8 32] W fun e w' => ∃ g c, e = .returned (.slice (some ⟨g, 0, none⟩) (ws.length + 1) c) ∧ Own strEnc 1 w' W.heap.size 9 (.slice (some ⟨g, 0, none⟩) (ws.length + 1) c) (v :: ws) ∧ Below W.heap.size W w' := fun W =>
        (hsp W).mono fun e w' ⟨g, c, h1, h2, h3⟩ => ⟨g, c, h1, h2, h3⟩
      have HSP := Lib.hid hsp2
      have HWS : Hid (∀ y, y ∈ ws → y.length ≤ 100000) := Lib.hid fun y hy => by have := hps.1 y (by simp [hy]); omega
      have hwl : ws.length ≤ 100000 := by omega
      obtain ⟨⟨nl, nok⟩, hq⟩ : ∃ r, numsQ ws = r := ⟨_, rfl⟩
      have HQ := Lib.hid hq
      obtain ⟨zb, hzb⟩ : ∃ zb, decide (k < init.length) = zb := ⟨_, rfl⟩
      have HLF : Hid (LineFact l P k init.length (gOf h lv items) v nl (nok && zb && (decide (k = 0) == (v == [116, 105, 109, 101])))) := Lib.hid (line_fact HPI.out hx hv HI.out hq (fun hz => by rw [hz] at hzb; simpa using hzb) (fun hz => by
        rw [hz] at hzb
        have hke : k = init.length := by simp at hzb; omega
        have hwf : wh = false := by
          cases wh with
          | false => rfl
          | true => have := (HW.out.1 rfl).1; omega
        rw [HI.out, HPI.out, hke, List.drop_left]
        refine readOut_cut fun hc => (HW.out.2 hwf).2 ⟨hc.2, by omega⟩))
      have hkz : ((k : Int) == 0) = decide (k = 0) := by rw [Bool.eq_iff_iff]; simp
      have hzz : wh = false → decide ((k : Int) < (n5 : Int) - 1) = zb := fun hw => by
        have := (HW.out.2 hw).1
        rw [← hzb, Bool.eq_iff_iff]
        simp
        omega
      have hzw : wh = true → zb = true := fun hw => by
        have := (HW.out.1 hw).1
        rw [← hzb]
        simp
        omega
      have hnw : IntKind.i64.wrap ((n5 : Int) - 1) = (n5 : Int) - 1 := IntWalk.i64_in _ (by omega)
      obtain ⟨f, hf⟩ : ∃ f, decide (k = 0) = f := ⟨_, rfl⟩
      obtain ⟨tm, htm⟩ : ∃ tm, (v == [116, 105, 109, 101]) = tm := ⟨_, rfl⟩
      rw [hf] at hkz HLF
      rw [htm] at HLF
      have HHTM := Lib.hid htm
      have HM := Lib.hid M
      obtain ⟨c1, c2, c3⟩ := BP.facts
      have hrefN : ∀ (W : World) (A : Option Addr) (c : Nat), StrsAt W A c ws → Calls Tryd.prog 45 #[.slice A ws.length c] W (NumsOut (nl, nok) W) := fun W A c hS => by
        have := refNumbers_any A c ws W hS hwl HWS.out
        rwa [hq] at this
      have HRN := Lib.hid hrefN
      clear hrefN hf hq hps hsp hsp2 hv hkP hx hG M hzb HI
      have HBR := Lib.hid BR; have HBP := Lib.hid BP
      clear BR BP
      go_wp2_with fail
      refine (HSP.out _).mono ?_
      rintro e w6 ⟨gw, cw, rfl, hO6, hb6⟩
      have hbw6 := ext_trans hb hb6
      have M6 := HM.out.ext hb6
      have BR6 := HBR.out.ext hb6
      have BP6 := HBP.out.ext hb6
      have hgw : wr.heap.size ≤ gw := by
        obtain ⟨_, h, _⟩ := hO6.cells strEnc_len
        exact h
      obtain ⟨hqq, _, hwc1, hwc2, csw, BW, hcsw, hrow⟩ := hO6.cells strEnc_len
      have hwc3 : ws.length + 1 ≤ cw := by simpa using hwc1
      have hwc4 : cw ≤ 9223372036854775807 := hwc2
      have hcv : csw[0]? = some (Value.string (bs v)) := by have := hrow 0 v rfl 0 (by decide); simpa [strEnc] using this
      have hSw : StrsAt w6 (some ⟨gw, 0, none⟩) cw (v :: ws) := by
        obtain ⟨B, d, e1, hS⟩ := own_strs hO6
        obtain ⟨rfl, rfl⟩ : some ⟨gw, 0, none⟩ = B ∧ cw = d := by simpa using e1
        exact hS
      have HSW := Lib.hid hSw
      have HGW := Lib.hid hgw
      have HCV := Lib.hid hcv
      have hx6 : w6.cell? ⟨gw, 0, none⟩ = some (Value.string (bs v)) := (BW.cell 0).trans hcv
      clear hqq hwc1 hwc2 hrow hO6 hb6 c1 c2 c3 hSw hgw hcv hcsw
      go_upto_region 12 with fail
      go_cut [10, 11] from 50 to 75 (fun x10 x11 wx => ∃ (A10 : Option Addr) (c10 : Nat), x10 = .slice A10 nl.length c10 ∧ x11 = .bool nok ∧ (Own intEnc 1 wx (gx + 1) 3 (.slice A10 nl.length c10) nl ∧ ∀ y, y ∈ nl → I64 y) ∧ Below w6.heap.size w6 wx)
      case first =>
        by_cases hc1 : 1 < cw
        · have hS2 := HSW.out.tail
          go_wp2_with fail
          refine (HRN.out _ _ _ hS2).mono ?_
          rintro e w7 ⟨A7, c7, rfl, h7, hb7⟩
          go_wp2_with fail
          go_meet
          case rel => exact ⟨A7, c7, rfl, rfl, ⟨h7.1.since M6.le, h7.2⟩, hb7⟩
        · obtain rfl : cw = 1 := by omega
          obtain rfl : ws = [] := List.eq_nil_of_length_eq_zero (by omega)
          have hS2 : StrsAt w6 (some ⟨gw, 0, none⟩) 0 [] := ⟨Nat.le_refl _, Nat.zero_le _, SlAt.nil⟩
          go_wp2_with fail
          refine (HRN.out _ _ _ hS2).mono ?_
          rintro e w7 ⟨A7, c7, rfl, h7, hb7⟩
          go_wp2_with fail
          go_meet
          case rel => exact ⟨A7, c7, rfl, rfl, ⟨h7.1.since M6.le, h7.2⟩, hb7⟩
      case rest =>
      obtain ⟨A10, c10, rfl, rfl, hN7, hb7⟩ := hcut
      have hbw7 := ext_trans hbw6 hb7
      have M7 := M6.ext hb7
      have BR7 := BR6.ext hb7
      have BP7 := BP6.ext hb7
      have BW7 := BW.ext hb7
      have hx7 := (BW7.cell 0).trans HCV.out
      clear hb7 hbw6 M6 BR6 BP6 BW hx6 hb
      obtain ⟨o, ho⟩ : ∃ o, (nok && zb && (f == tm)) = o := ⟨_, rfl⟩
      have HO := Lib.hid ho
      rw [ho] at HLF
      clear ho
      go_upto_region 13 with fail
      go_cut [11] from 56 to 75 (fun x11 wx => x11 = .bool o ∧ wx = wc)
      case first =>
        cases nok with
        | false =>
          go_wp2_with fail
          go_meet
          case rel => exact ⟨by rw [← HO.out]; rfl, rfl⟩
        | true =>
          cases wh with
          | true =>
            obtain rfl : zb = true := hzw rfl
            clear hzz
            go_wp2_with fail
            go_meet
            case rel => exact ⟨by rw [← HO.out]; simp, rfl⟩
          | false =>
            have hz7 := hzz rfl
            clear hzw hzz
            cases zb with
            | false =>
              go_wp2_with fail
              go_meet
              case rel => exact ⟨by rw [← HO.out]; rfl, rfl⟩
            | true =>
              go_wp2_with fail
              go_meet
              case rel => exact ⟨by rw [← HO.out]; simp, rfl⟩
      case rest =>
      obtain ⟨rfl, rfl⟩ := hcut
      clear hzz hzw hkz hnw htm HSP HRN hwl HWS hxl
      have HM7 := Lib.hid M7
      have HBR7 := Lib.hid BR7
      have HBP7 := Lib.hid BP7
      obtain ⟨p1, p2, p3⟩ := M7.gr.facts
      obtain ⟨c1, c2, c3⟩ := BR7.facts
      have hgx7 : gx + 1 ≤ wc.heap.size := M7.le
      have hlv : lv.length ≤ 8192 := by have := M7.cnt.1; omega
      have hit : items.length ≤ 8192 := by have := M7.cnt.2.1; omega
      clear M7 BR7 BP7
      by_cases hv0 : v = wTime
      case pos =>
        have HV := Lib.hid hv0
        clear hv0
        have q1 : (v == [116, 105, 109, 101]) = true := by rw [HV.out]; decide
        have q2 : (v == [118, 101, 114, 116, 101, 120]) = false := by rw [HV.out]; decide
        have q3 : (v == [101, 100, 103, 101]) = false := by rw [HV.out]; decide
        have q4 : (v == [108, 101, 103]) = false := by rw [HV.out]; decide
        by_cases hn1 : (nl.length : Int) = 1
        case neg =>
          have d1 : ((nl.length : Int) == 1) = false := by simpa using hn1
          have HF : Hid (parseD l = (noG, (k : Int) + 1, 3)) := Lib.hid (HLF.out.none (by rw [HV.out]; exact stepN_len (many_time _) hn1))
          clear HLF
          go_wp2_with fail
          refine bodyPost_ret (v := .tuple #[gV none 0 none 0 noG, .int .i64 ((k : Int) + 1), .int .i64 3]) (by simp [results, Tryd.results18, go_sem, c1]) rfl ?_
          rw [HF.out]
          exact ⟨none, 0, none, 0, rfl, noG_at _, ((hbw7.setCell (Nat.le_refl _) _).setCell (Nat.le_refl _) _).setCell (Nat.le_refl _) _⟩
        case pos =>
          obtain ⟨a, rfl⟩ := nums_one hn1
          obtain ⟨g5, cs5, rfl, hg5, B5, h5⟩ := own_at hN7.1 (by simp)
          have n0 := h5 0 a rfl
          have i0 := hN7.2 a (by simp)
          obtain ⟨r1, r2, r3⟩ := B5.facts
          clear h5 hN7
          clear hn1
          go_upto_region 25 with fail
          have M6 := HM7.out.time i0
          have hbe := hbw7.setCell (p := ⟨gx, 0, none⟩) (Nat.le_of_lt hwx) (.int .i64 a)
          have BRe := HBR7.out.far (p := ⟨gx, 0, none⟩) (by simp only; omega) (.int .i64 a)
          have BPe := keep_store HM7.out.gr (by decide) 0 (.int .i64 a) _ _ HBP7.out
          have Me := M6.more (Nat.le_succ k)
          cases o with
          | false =>
            have HF : Hid (parseD l = (noG, (k : Int) + 1, 3)) := Lib.hid (HLF.out.2 rfl)
            obtain ⟨t1, t2, t3⟩ := BRe.facts
            clear HLF
            go_wp2_with fail
            refine bodyPost_ret (v := .tuple #[gV none 0 none 0 noG, .int .i64 ((k : Int) + 1), .int .i64 3]) (by simp [results, Tryd.results18, go_sem, t1]) rfl ?_
            rw [HF.out]
            exact ⟨none, 0, none, 0, rfl, noG_at _, ((hbe.setCell (Nat.le_refl _) _).setCell (Nat.le_refl _) _).setCell (Nat.le_refl _) _⟩
          | true =>
            obtain ⟨hkn, hpd⟩ := HLF.out.some (show stepN _ v [a] = some (gOf a lv items) by rw [HV.out]; rfl)
            have HPD := Lib.hid hpd
            clear HLF hpd
            go_wp2_with fail
            go_roundw
            case rel => exact ⟨k + 1, _, _, _, _, _, by go_num, by omega, Me, BRe, BPe, hbe, by exact HPD⟩
            case measure => simp [intOf]; omega
      by_cases hv1 : v = wVertex
      case pos =>
        have HV := Lib.hid hv1
        clear hv1
        have q1 : (v == [116, 105, 109, 101]) = false := by rw [HV.out]; decide
        have q2 : (v == [118, 101, 114, 116, 101, 120]) = true := by rw [HV.out]; decide
        have q3 : (v == [101, 100, 103, 101]) = false := by rw [HV.out]; decide
        have q4 : (v == [108, 101, 103]) = false := by rw [HV.out]; decide
        by_cases hn1 : (nl.length : Int) = 2
        case neg =>
          have d1 : ((nl.length : Int) == 2) = false := by simpa using hn1
          have HF : Hid (parseD l = (noG, (k : Int) + 1, 3)) := Lib.hid (HLF.out.none (by rw [HV.out]; exact stepN_len (many_vertex _) hn1))
          clear HLF
          go_wp2_with fail
          refine bodyPost_ret (v := .tuple #[gV none 0 none 0 noG, .int .i64 ((k : Int) + 1), .int .i64 3]) (by simp [results, Tryd.results18, go_sem, c1]) rfl ?_
          rw [HF.out]
          exact ⟨none, 0, none, 0, rfl, noG_at _, ((hbw7.setCell (Nat.le_refl _) _).setCell (Nat.le_refl _) _).setCell (Nat.le_refl _) _⟩
        case pos =>
          obtain ⟨a, a2, rfl⟩ := nums_two hn1
          clear hn1
          by_cases hi0 : items = []
          case neg =>
            have hz : ((items.length : Int) == 0) = false := by
              have : items.length ≠ 0 := fun e => hi0 (List.eq_nil_of_length_eq_zero e)
              simp; omega
            have HF : Hid (parseD l = (noG, (k : Int) + 1, 3)) := Lib.hid (HLF.out.none (by rw [HV.out]; simp [stepN, hi0]))
            clear HLF
            go_wp2_with fail
            refine bodyPost_ret (v := .tuple #[gV none 0 none 0 noG, .int .i64 ((k : Int) + 1), .int .i64 3]) (by simp [results, Tryd.results18, go_sem, c1]) rfl ?_
            rw [HF.out]
            exact ⟨none, 0, none, 0, rfl, noG_at _, ((hbw7.setCell (Nat.le_refl _) _).setCell (Nat.le_refl _) _).setCell (Nat.le_refl _) _⟩
          case pos =>
            subst hi0
            have HN2 : Hid (stepN (gOf h lv []) v [a, a2] = some ⟨h, lv ++ [⟨a, a2⟩], []⟩) := Lib.hid (by rw [HV.out]; simp [stepN])
            obtain ⟨g5, cs5, rfl, hg5, B5, h5⟩ := own_at hN7.1 (by simp)
            have n0 := h5 0 a rfl
            have n1 := h5 1 a2 rfl
            have i0 := hN7.2 a (by simp)
            have i1 := hN7.2 a2 (by simp)
            obtain ⟨r1, r2, r3⟩ := B5.facts
            clear h5 hN7
            obtain ⟨j0, hj, hj0, hj1, hj2⟩ := info_ivl2
            go_wp2_with fail
            obtain ⟨S, hSS⟩ : ∃ S : World → Prop, Hid (S = fun w' => w'.cell? ⟨gx, 1, none⟩ = some (.slice A lv.length cA) ∧ w'.cell? ⟨g5, 0, none⟩ = some (.int .i64 a) ∧ w'.cell? ⟨g5, 1, none⟩ = some (.int .i64 a2)) := ⟨_, Lib.hid rfl⟩
            have HSB : Hid (∀ w' : World, Blk w' gx 25 #[.int .i64 h, .slice A lv.length cA, .slice A' ([] : List EItem).length cA'] → Blk w' g5 3 cs5 → S w') := Lib.hid fun w' h1 h2 => by rw [hSS.out]; exact ⟨by rw [h1.cell]; rfl, by rw [h2.cell]; exact n0, by rw [h2.cell]; exact n1⟩
            have M5 := HM7.out
            have hS0 : S wc.drew := HSB.out _ M5.gr.drew B5.drew
            clear r1 r2 r3 p1 p2 p3
            refine WpN.begin (S := S) 12 (by kernel_rfl) ?_
            refine WpN.takeD (i := 0) (v := ?_) rfl rfl (by kernel_rfl) (fun _ _ _ h => h) (Or.inl ⟨by rfl, ?_⟩) (by assumption) ?_
            rotate_left
            · intro w hSw; rw [hSS.out] at hSw; obtain ⟨sw0, sw1, sw2⟩ := hSw; go_simp; try with_reducible rfl
            try simp only [Act.put, List.setIfInBounds_toArray, List.set_cons_zero, List.set_cons_succ]
            refine WpN.takeD (i := 1) (v := ?_) rfl rfl (by kernel_rfl) (fun _ _ _ h => h) (Or.inl ⟨by rfl, ?_⟩) (by assumption) ?_
            rotate_left
            · intro w hSw; rw [hSS.out] at hSw; obtain ⟨sw0, sw1, sw2⟩ := hSw; go_simp; try with_reducible rfl
            try simp only [Act.put, List.setIfInBounds_toArray, List.set_cons_zero, List.set_cons_succ]
            refine WpN.takeD (i := 2) (v := ?_) rfl rfl (by kernel_rfl) (fun _ _ _ h => h) (Or.inl ⟨by rfl, ?_⟩) (by assumption) ?_
            rotate_left
            · intro w hSw; rw [hSS.out] at hSw; obtain ⟨sw0, sw1, sw2⟩ := hSw; go_simp; try with_reducible rfl
            try simp only [Act.put, List.setIfInBounds_toArray, List.set_cons_zero, List.set_cons_succ]
            refine WpN.takeD (i := 3) (v := ?_) rfl rfl (by kernel_rfl) (fun _ _ _ h => h) (Or.inl ⟨by rfl, ?_⟩) (by assumption) ?_
            rotate_left
            · intro w hSw; rw [hSS.out] at hSw; obtain ⟨sw0, sw1, sw2⟩ := hSw; go_simp; try with_reducible rfl
            try simp only [Act.put, List.setIfInBounds_toArray, List.set_cons_zero, List.set_cons_succ]
            refine WpN.takeD (i := 4) (v := ?_) rfl rfl (by kernel_rfl) (fun _ _ _ h => h) (Or.inl ⟨by rfl, ?_⟩) (by assumption) ?_
            rotate_left
            · intro w hSw; rw [hSS.out] at hSw; obtain ⟨sw0, sw1, sw2⟩ := hSw; go_simp; try with_reducible rfl
            try simp only [Act.put, List.setIfInBounds_toArray, List.set_cons_zero, List.set_cons_succ]
            refine WpN.takeD (i := 5) (v := ?_) rfl rfl (by kernel_rfl) (fun _ _ _ h => h) (Or.inl ⟨by rfl, ?_⟩) (by assumption) ?_
            rotate_left
            · intro w hSw; rw [hSS.out] at hSw; obtain ⟨sw0, sw1, sw2⟩ := hSw; go_simp; try with_reducible rfl
            try simp only [Act.put, List.setIfInBounds_toArray, List.set_cons_zero, List.set_cons_succ]
            refine WpN.takeD (i := 6) (v := ?_) rfl rfl (by kernel_rfl) (fun _ _ _ h => h) (Or.inl ⟨by rfl, ?_⟩) (by assumption) ?_
            rotate_left
            · intro w hSw; rw [hSS.out] at hSw; obtain ⟨sw0, sw1, sw2⟩ := hSw; go_simp; try with_reducible rfl
            try simp only [Act.put, List.setIfInBounds_toArray, List.set_cons_zero, List.set_cons_succ]
            refine WpN.takeD (i := 7) (v := ?_) rfl rfl (by kernel_rfl) (fun _ _ _ h => h) (Or.inl ⟨by rfl, ?_⟩) (by assumption) ?_
            rotate_left
            · intro w hSw; rw [hSS.out] at hSw; obtain ⟨sw0, sw1, sw2⟩ := hSw; go_simp; try with_reducible rfl
            try simp only [Act.put, List.setIfInBounds_toArray, List.set_cons_zero, List.set_cons_succ]
            refine WpN.takeD (i := 8) (v := ?_) rfl rfl (by kernel_rfl) (fun _ _ _ h => h) (Or.inl ⟨by rfl, ?_⟩) (by assumption) ?_
            rotate_left
            · intro w hSw; rw [hSS.out] at hSw; obtain ⟨sw0, sw1, sw2⟩ := hSw; go_simp; try with_reducible rfl
            try simp only [Act.put, List.setIfInBounds_toArray, List.set_cons_zero, List.set_cons_succ]
            refine WpN.one (i := 9) rfl (by kernel_rfl) fun K hK => ?_
            go_wp2_with fail
            have M7 : GMem (wc.drew.alloc (Obj.cells #[.int .i64 a, .int .i64 a2] 49)) gx k h (.slice A lv.length cA) (.slice A' ([] : List EItem).length cA') lv ([] : List EItem) := M5.drew.keep fun _ _ _ h => h.alloc _
            have B7 : Blk (wc.drew.alloc (Obj.cells #[.int .i64 a, .int .i64 a2] 49)) g5 3 cs5 := B5.drew.alloc _
            have hS7 := HSB.out _ M7.gr B7
            refine hK.out _ _ ⟨fun _ => hS7, ?_⟩
            clear hK K
            try simp only [Act.put, List.setIfInBounds_toArray, List.set_cons_zero, List.set_cons_succ]
            refine WpN.one (i := 10) rfl (by kernel_rfl) fun K hK => ?_
            refine wp_append_lie (enc := ivlC) (.tmp 108) (.tmp 116) 22 rfl (gx + 1) 49 j0 _ 2 16 Tryd.underlying22 hj hj0 hj1 hj2 rfl (by decide) _ lv ⟨a, a2⟩ rfl M5.drew.lives #[.int .i64 a, .int .i64 a2] rfl wc.drew.heap.size rfl rfl rfl two_one (by have := M5.cnt; omega) (by decide) hgx7 ?_
            intro gn cap w6 hown6 hbb hkp hgn
            have B6 := hkp _ _ _ B5.drew (M5.drew.lives.other B5.drew (by decide))
            have BR6 := hkp _ _ _ HBR7.out.drew (M5.drew.lives.other HBR7.out.drew (by decide))
            have BP6 := hkp _ _ _ HBP7.out.drew (M5.drew.lives.other HBP7.out.drew (by decide))
            obtain ⟨G6, M6⟩ := M5.drew.vertex hown6 hkp ⟨i0, i1⟩
            have hS8 := HSB.out _ G6 B6
            refine hK.out _ _ ⟨fun _ => hS8, ?_⟩
            clear hK K
            try simp only [Act.put, List.setIfInBounds_toArray]
            refine WpN.takeD (i := 11) (v := ?_) rfl rfl (by kernel_rfl) (fun _ _ _ h => h) (Or.inl ⟨by rfl, ?_⟩) (by assumption) ?_
            rotate_left
            · intro w hSw; rw [hSS.out] at hSw; obtain ⟨sw0, sw1, sw2⟩ := hSw; go_simp; try with_reducible rfl
            try simp only [Act.put]
            refine WpN.one (i := 12) rfl (by kernel_rfl) fun K hK => ?_
            obtain ⟨y1, y2, y3⟩ := G6.facts
            go_wp2_with fail
            refine hK.out _ _ ⟨fun h => by omega, ?_⟩
            clear hK K
            refine WpN.done (by kernel_rfl) ?_ _
            clear y1 y2 y3
            go_upto_region 25 with fail
            have hbe := ((below_drew hbw7).trans (hbb.mono (by omega))).setCell (p := ⟨gx, 1, none⟩) (Nat.le_of_lt hwx) (.slice (some ⟨gn, 0, none⟩) (lv.length + 1) cap)
            have BRe := BR6.far (p := ⟨gx, 1, none⟩) (by simp only; omega) (.slice (some ⟨gn, 0, none⟩) (lv.length + 1) cap)
            have BPe := keep_store G6 (by decide) 1 (.slice (some ⟨gn, 0, none⟩) (lv.length + 1) cap) _ _ BP6
            have Me := M6
            cases o with
            | false =>
              have HF : Hid (parseD l = (noG, (k : Int) + 1, 3)) := Lib.hid (HLF.out.2 rfl)
              obtain ⟨t1, t2, t3⟩ := BRe.facts
              clear HLF
              go_wp2_with fail
              refine bodyPost_ret (v := .tuple #[gV none 0 none 0 noG, .int .i64 ((k : Int) + 1), .int .i64 3]) (by simp [results, Tryd.results18, go_sem, t1]) rfl ?_
              rw [HF.out]
              exact ⟨none, 0, none, 0, rfl, noG_at _, ((hbe.setCell (Nat.le_refl _) _).setCell (Nat.le_refl _) _).setCell (Nat.le_refl _) _⟩
            | true =>
              obtain ⟨hkn, hpd⟩ := HLF.out.some (HN2.out)
              have HPD := Lib.hid hpd
              clear HLF hpd
              go_wp2_with fail
              go_roundw
              case rel => exact ⟨k + 1, _, _, _, _, _, by go_num, by omega, Me, BRe, BPe, hbe, by exact HPD⟩
              case measure => simp [intOf]; omega
      by_cases hv2 : v = wEdge
      case pos =>
        have HV := Lib.hid hv2
        clear hv2
        have q1 : (v == [116, 105, 109, 101]) = false := by rw [HV.out]; decide
        have q2 : (v == [118, 101, 114, 116, 101, 120]) = false := by rw [HV.out]; decide
        have q3 : (v == [101, 100, 103, 101]) = true := by rw [HV.out]; decide
        have q4 : (v == [108, 101, 103]) = false := by rw [HV.out]; decide
        by_cases hn1 : (nl.length : Int) = 2
        case neg =>
          have d1 : ((nl.length : Int) == 2) = false := by simpa using hn1
          have HF : Hid (parseD l = (noG, (k : Int) + 1, 3)) := Lib.hid (HLF.out.none (by rw [HV.out]; exact stepN_len (many_edge _) hn1))
          clear HLF
          go_wp2_with fail
          refine bodyPost_ret (v := .tuple #[gV none 0 none 0 noG, .int .i64 ((k : Int) + 1), .int .i64 3]) (by simp [results, Tryd.results18, go_sem, c1]) rfl ?_
          rw [HF.out]
          exact ⟨none, 0, none, 0, rfl, noG_at _, ((hbw7.setCell (Nat.le_refl _) _).setCell (Nat.le_refl _) _).setCell (Nat.le_refl _) _⟩
        case pos =>
          obtain ⟨a, a2, rfl⟩ := nums_two hn1
          clear hn1
          have HN2 : Hid (stepN (gOf h lv items) v [a, a2] = some ⟨h, lv, items.map Prod.fst ++ [⟨a, a2, []⟩]⟩) := Lib.hid (by rw [HV.out]; exact stepN_edge)
          obtain ⟨g5, cs5, rfl, hg5, B5, h5⟩ := own_at hN7.1 (by simp)
          have n0 := h5 0 a rfl
          have n1 := h5 1 a2 rfl
          have i0 := hN7.2 a (by simp)
          have i1 := hN7.2 a2 (by simp)
          obtain ⟨r1, r2, r3⟩ := B5.facts
          clear h5 hN7
          obtain ⟨j0, hj, hj0, hj1, hj2⟩ := info_edge2
          go_wp2_with fail
          obtain ⟨S, hSS⟩ : ∃ S : World → Prop, Hid (S = fun w' => w'.cell? ⟨gx, 2, none⟩ = some (.slice A' items.length cA') ∧ w'.cell? ⟨g5, 0, none⟩ = some (.int .i64 a) ∧ w'.cell? ⟨g5, 1, none⟩ = some (.int .i64 a2)) := ⟨_, Lib.hid rfl⟩
          have HSB : Hid (∀ w' : World, Blk w' gx 25 #[.int .i64 h, .slice A lv.length cA, .slice A' items.length cA'] → Blk w' g5 3 cs5 → S w') := Lib.hid fun w' h1 h2 => by rw [hSS.out]; exact ⟨by rw [h1.cell]; rfl, by rw [h2.cell]; exact n0, by rw [h2.cell]; exact n1⟩
          have M5 := HM7.out
          have hS0 : S wc.drew := HSB.out _ M5.gr.drew B5.drew
          clear r1 r2 r3 p1 p2 p3
          refine WpN.begin (S := S) 12 (by kernel_rfl) ?_
          refine WpN.takeD (i := 0) (v := ?_) rfl rfl (by kernel_rfl) (fun _ _ _ h => h) (Or.inl ⟨by rfl, ?_⟩) (by assumption) ?_
          rotate_left
          · intro w hSw; rw [hSS.out] at hSw; obtain ⟨sw0, sw1, sw2⟩ := hSw; go_simp; try with_reducible rfl
          try simp only [Act.put, List.setIfInBounds_toArray, List.set_cons_zero, List.set_cons_succ]
          refine WpN.takeD (i := 1) (v := ?_) rfl rfl (by kernel_rfl) (fun _ _ _ h => h) (Or.inl ⟨by rfl, ?_⟩) (by assumption) ?_
          rotate_left
          · intro w hSw; rw [hSS.out] at hSw; obtain ⟨sw0, sw1, sw2⟩ := hSw; go_simp; try with_reducible rfl
          try simp only [Act.put, List.setIfInBounds_toArray, List.set_cons_zero, List.set_cons_succ]
          refine WpN.takeD (i := 2) (v := ?_) rfl rfl (by kernel_rfl) (fun _ _ _ h => h) (Or.inl ⟨by rfl, ?_⟩) (by assumption) ?_
          rotate_left
          · intro w hSw; rw [hSS.out] at hSw; obtain ⟨sw0, sw1, sw2⟩ := hSw; go_simp; try with_reducible rfl
          try simp only [Act.put, List.setIfInBounds_toArray, List.set_cons_zero, List.set_cons_succ]
          refine WpN.takeD (i := 3) (v := ?_) rfl rfl (by kernel_rfl) (fun _ _ _ h => h) (Or.inl ⟨by rfl, ?_⟩) (by assumption) ?_
          rotate_left
          · intro w hSw; rw [hSS.out] at hSw; obtain ⟨sw0, sw1, sw2⟩ := hSw; go_simp; try with_reducible rfl
          try simp only [Act.put, List.setIfInBounds_toArray, List.set_cons_zero, List.set_cons_succ]
          refine WpN.takeD (i := 4) (v := ?_) rfl rfl (by kernel_rfl) (fun _ _ _ h => h) (Or.inl ⟨by rfl, ?_⟩) (by assumption) ?_
          rotate_left
          · intro w hSw; rw [hSS.out] at hSw; obtain ⟨sw0, sw1, sw2⟩ := hSw; go_simp; try with_reducible rfl
          try simp only [Act.put, List.setIfInBounds_toArray, List.set_cons_zero, List.set_cons_succ]
          refine WpN.takeD (i := 5) (v := ?_) rfl rfl (by kernel_rfl) (fun _ _ _ h => h) (Or.inl ⟨by rfl, ?_⟩) (by assumption) ?_
          rotate_left
          · intro w hSw; rw [hSS.out] at hSw; obtain ⟨sw0, sw1, sw2⟩ := hSw; go_simp; try with_reducible rfl
          try simp only [Act.put, List.setIfInBounds_toArray, List.set_cons_zero, List.set_cons_succ]
          refine WpN.takeD (i := 6) (v := ?_) rfl rfl (by kernel_rfl) (fun _ _ _ h => h) (Or.inl ⟨by rfl, ?_⟩) (by assumption) ?_
          rotate_left
          · intro w hSw; rw [hSS.out] at hSw; obtain ⟨sw0, sw1, sw2⟩ := hSw; go_simp; try with_reducible rfl
          try simp only [Act.put, List.setIfInBounds_toArray, List.set_cons_zero, List.set_cons_succ]
          refine WpN.takeD (i := 7) (v := ?_) rfl rfl (by kernel_rfl) (fun _ _ _ h => h) (Or.inl ⟨by rfl, ?_⟩) (by assumption) ?_
          rotate_left
          · intro w hSw; rw [hSS.out] at hSw; obtain ⟨sw0, sw1, sw2⟩ := hSw; go_simp; try with_reducible rfl
          try simp only [Act.put, List.setIfInBounds_toArray, List.set_cons_zero, List.set_cons_succ]
          refine WpN.takeD (i := 8) (v := ?_) rfl rfl (by kernel_rfl) (fun _ _ _ h => h) (Or.inl ⟨by rfl, ?_⟩) (by assumption) ?_
          rotate_left
          · intro w hSw; rw [hSS.out] at hSw; obtain ⟨sw0, sw1, sw2⟩ := hSw; go_simp; try with_reducible rfl
          try simp only [Act.put, List.setIfInBounds_toArray, List.set_cons_zero, List.set_cons_succ]
          refine WpN.one (i := 9) rfl (by kernel_rfl) fun K hK => ?_
          go_wp2_with fail
          have M7 : GMem (wc.drew.alloc (Obj.cells #[.int .i64 a, .int .i64 a2, .slice none 0 0] 74)) gx k h (.slice A lv.length cA) (.slice A' items.length cA') lv items := M5.drew.keep fun _ _ _ h => h.alloc _
          have B7 : Blk (wc.drew.alloc (Obj.cells #[.int .i64 a, .int .i64 a2, .slice none 0 0] 74)) g5 3 cs5 := B5.drew.alloc _
          have hS7 := HSB.out _ M7.gr B7
          refine hK.out _ _ ⟨fun _ => hS7, ?_⟩
          clear hK K
          try simp only [Act.put, List.setIfInBounds_toArray, List.set_cons_zero, List.set_cons_succ]
          refine WpN.one (i := 10) rfl (by kernel_rfl) fun K hK => ?_
          refine wp_append_lie (enc := eEnc) (.tmp 130) (.tmp 138) 23 rfl (gx + 1) 74 j0 _ 3 40 Tryd.underlying23 hj hj0 hj1 hj2 rfl (by decide) _ items (⟨a, a2, []⟩, none, 0) rfl M5.drew.edges #[.int .i64 a, .int .i64 a2, .slice none 0 0] rfl wc.drew.heap.size rfl rfl rfl three_one (by have := M5.cnt; omega) (by decide) hgx7 ?_
          intro gn cap w6 hown6 hbb hkp hgn
          have B6 := hkp _ _ _ B5.drew (M5.drew.edges.other B5.drew (by decide))
          have BR6 := hkp _ _ _ HBR7.out.drew (M5.drew.edges.other HBR7.out.drew (by decide))
          have BP6 := hkp _ _ _ HBP7.out.drew (M5.drew.edges.other HBP7.out.drew (by decide))
          obtain ⟨G6, M6⟩ := M5.drew.edge hown6 hkp ⟨i0, i1⟩
          have hS8 := HSB.out _ G6 B6
          refine hK.out _ _ ⟨fun _ => hS8, ?_⟩
          clear hK K
          try simp only [Act.put, List.setIfInBounds_toArray]
          refine WpN.takeD (i := 11) (v := ?_) rfl rfl (by kernel_rfl) (fun _ _ _ h => h) (Or.inl ⟨by rfl, ?_⟩) (by assumption) ?_
          rotate_left
          · intro w hSw; rw [hSS.out] at hSw; obtain ⟨sw0, sw1, sw2⟩ := hSw; go_simp; try with_reducible rfl
          try simp only [Act.put]
          refine WpN.one (i := 12) rfl (by kernel_rfl) fun K hK => ?_
          obtain ⟨y1, y2, y3⟩ := G6.facts
          go_wp2_with fail
          refine hK.out _ _ ⟨fun h => by omega, ?_⟩
          clear hK K
          refine WpN.done (by kernel_rfl) ?_ _
          clear y1 y2 y3
          go_upto_region 25 with fail
          have hbe := ((below_drew hbw7).trans (hbb.mono (by omega))).setCell (p := ⟨gx, 2, none⟩) (Nat.le_of_lt hwx) (.slice (some ⟨gn, 0, none⟩) (items.length + 1) cap)
          have BRe := BR6.far (p := ⟨gx, 2, none⟩) (by simp only; omega) (.slice (some ⟨gn, 0, none⟩) (items.length + 1) cap)
          have BPe := keep_store G6 (by decide) 2 (.slice (some ⟨gn, 0, none⟩) (items.length + 1) cap) _ _ BP6
          have Me := M6
          cases o with
          | false =>
            have HF : Hid (parseD l = (noG, (k : Int) + 1, 3)) := Lib.hid (HLF.out.2 rfl)
            obtain ⟨t1, t2, t3⟩ := BRe.facts
            clear HLF
            go_wp2_with fail
            refine bodyPost_ret (v := .tuple #[gV none 0 none 0 noG, .int .i64 ((k : Int) + 1), .int .i64 3]) (by simp [results, Tryd.results18, go_sem, t1]) rfl ?_
            rw [HF.out]
            exact ⟨none, 0, none, 0, rfl, noG_at _, ((hbe.setCell (Nat.le_refl _) _).setCell (Nat.le_refl _) _).setCell (Nat.le_refl _) _⟩
          | true =>
            obtain ⟨hkn, hpd⟩ := HLF.out.some (HN2.out)
            have HPD := Lib.hid hpd
            clear HLF hpd
            go_wp2_with fail
            go_roundw
            case rel => exact ⟨k + 1, _, _, _, _, _, by go_num, by omega, Me, BRe, BPe, hbe, by rw [gOf_eq]; exact HPD⟩
            case measure => simp [intOf]; omega
      by_cases hv3 : v = wLeg
      case pos =>
        have HV := Lib.hid hv3
        clear hv3
        have q1 : (v == [116, 105, 109, 101]) = false := by rw [HV.out]; decide
        have q2 : (v == [118, 101, 114, 116, 101, 120]) = false := by rw [HV.out]; decide
        have q3 : (v == [101, 100, 103, 101]) = false := by rw [HV.out]; decide
        have q4 : (v == [108, 101, 103]) = true := by rw [HV.out]; decide
        by_cases hn1 : (nl.length : Int) = 4
        case neg =>
          have d1 : ((nl.length : Int) == 4) = false := by simpa using hn1
          have HF : Hid (parseD l = (noG, (k : Int) + 1, 3)) := Lib.hid (HLF.out.none (by rw [HV.out]; exact stepN_len (many_leg _) hn1))
          clear HLF
          go_wp2_with fail
          refine bodyPost_ret (v := .tuple #[gV none 0 none 0 noG, .int .i64 ((k : Int) + 1), .int .i64 3]) (by simp [results, Tryd.results18, go_sem, c1]) rfl ?_
          rw [HF.out]
          exact ⟨none, 0, none, 0, rfl, noG_at _, ((hbw7.setCell (Nat.le_refl _) _).setCell (Nat.le_refl _) _).setCell (Nat.le_refl _) _⟩
        case pos =>
          obtain ⟨a, a2, a3, a4, rfl⟩ := nums_four hn1
          clear hn1
          rcases List.eq_nil_or_concat items with rfl | ⟨ini, it, rfl⟩
          case inl =>
            have HF : Hid (parseD l = (noG, (k : Int) + 1, 3)) := Lib.hid (HLF.out.none (by rw [HV.out]; exact stepN_leg0 rfl))
            clear HLF
            go_wp2_with fail
            refine bodyPost_ret (v := .tuple #[gV none 0 none 0 noG, .int .i64 ((k : Int) + 1), .int .i64 3]) (by simp [results, Tryd.results18, go_sem, c1]) rfl ?_
            rw [HF.out]
            exact ⟨none, 0, none, 0, rfl, noG_at _, ((hbw7.setCell (Nat.le_refl _) _).setCell (Nat.le_refl _) _).setCell (Nat.le_refl _) _⟩
          case inr =>
            rw [List.concat_eq_append] at HM7 HLF p1 hit
            have HN2 : Hid (stepN (gOf h lv (ini ++ [it])) v [a, a2, a3, a4] = some ⟨h, lv, ini.map Prod.fst ++ [⟨it.1.a, it.1.b, it.1.legs ++ [⟨a, a2, a3, a4⟩]⟩]⟩) := Lib.hid (by
              rw [HV.out]
              exact stepN_leg (l := ini.map Prod.fst) (x := it.1) (by simp))
            rw [List.length_append] at HM7 p1 hit
            simp only [List.length_cons, List.length_nil, Nat.zero_add] at HM7 p1 hit
            have M5 := HM7.out
            obtain ⟨ge, rfl, _, hge, cse, BE, hce⟩ := edges_last M5.edges
            have hill : it.1.legs.length ≤ 8192 := by have := M5.cnt.2.2 it (by simp); omega
            have HL : Hid (LastAt wc.drew (gx + 1) ini it) := Lib.hid (M5.drew.legs ini it rfl)
            have hjw : IntKind.i64.wrap (ini.length : Int) = ini.length := IntWalk.i64_in _ (by omega)
            have hd9 : decide ((ini.length : Int) + 1 > 0) = true := by simp
            have hjl : ini.length < ini.length + 1 := by omega
            have hjz : (ini.length : Int) < (ini.length : Int) + 1 := by omega
            obtain ⟨z1, z2, z3⟩ := BE.facts
            obtain ⟨g5, cs5, rfl, hg5, B5, h5⟩ := own_at hN7.1 (by simp)
            have n0 := h5 0 a rfl
            have n1 := h5 1 a2 rfl
            have n2 := h5 2 a3 rfl
            have n3 := h5 3 a4 rfl
            have i0 := hN7.2 a (by simp)
            have i1 := hN7.2 a2 (by simp)
            have i2 := hN7.2 a3 (by simp)
            have i3 := hN7.2 a4 (by simp)
            obtain ⟨r1, r2, r3⟩ := B5.facts
            clear h5 hN7
            obtain ⟨j0, hj, hj0, hj1, hj2⟩ := info_leg2
            go_wp2_with fail
            clear z1 z2 z3
            obtain ⟨S, hSS⟩ : ∃ S : World → Prop, Hid (S = fun w' => w'.cell? ⟨gx, 2, none⟩ = some (.slice (some ⟨ge, 0, none⟩) (ini.length + 1) cA') ∧ w'.cell? ⟨ge, ini.length * 3 + 2, none⟩ = some (.slice it.2.1 it.1.legs.length it.2.2) ∧ w'.cell? ⟨g5, 0, none⟩ = some (.int .i64 a) ∧ w'.cell? ⟨g5, 1, none⟩ = some (.int .i64 a2) ∧ w'.cell? ⟨g5, 2, none⟩ = some (.int .i64 a3) ∧ w'.cell? ⟨g5, 3, none⟩ = some (.int .i64 a4)) := ⟨_, Lib.hid rfl⟩
            have HSB : Hid (∀ w' : World, Blk w' gx 25 #[.int .i64 h, .slice A lv.length cA, .slice (some ⟨ge, 0, none⟩) (ini.length + 1) cA'] → Blk w' ge 74 cse → Blk w' g5 3 cs5 → S w') := Lib.hid fun w' h1 h3 h2 => by rw [hSS.out]; exact ⟨by rw [h1.cell]; rfl, by rw [h3.cell]; exact hce, by rw [h2.cell]; exact n0, by rw [h2.cell]; exact n1, by rw [h2.cell]; exact n2, by rw [h2.cell]; exact n3⟩
            have hS0 : S wc.drew := HSB.out _ M5.gr.drew BE.drew B5.drew
            clear r1 r2 r3 p1 p2 p3
            refine WpN.begin (S := S) 22 (by kernel_rfl) ?_
            refine WpN.takeD (i := 0) (v := ?_) rfl rfl (by kernel_rfl) (fun _ _ _ h => h) (Or.inl ⟨by rfl, ?_⟩) (by assumption) ?_
            rotate_left
            · intro w hSw; rw [hSS.out] at hSw; obtain ⟨sw0, sw1, sw2, sw3, sw4, sw5⟩ := hSw; go_simp; try with_reducible rfl
            try simp only [Act.put, List.setIfInBounds_toArray, List.set_cons_zero, List.set_cons_succ]
            refine WpN.takeD (i := 1) (v := ?_) rfl rfl (by kernel_rfl) (fun _ _ _ h => h) (Or.inl ⟨by rfl, ?_⟩) (by assumption) ?_
            rotate_left
            · intro w hSw; rw [hSS.out] at hSw; obtain ⟨sw0, sw1, sw2, sw3, sw4, sw5⟩ := hSw; go_simp; try with_reducible rfl
            try simp only [Act.put, List.setIfInBounds_toArray, List.set_cons_zero, List.set_cons_succ]
            refine WpN.takeD (i := 2) (v := ?_) rfl rfl (by kernel_rfl) (fun _ _ _ h => h) (Or.inl ⟨by rfl, ?_⟩) (by assumption) ?_
            rotate_left
            · intro w hSw; rw [hSS.out] at hSw; obtain ⟨sw0, sw1, sw2, sw3, sw4, sw5⟩ := hSw; go_simp; try with_reducible rfl
            try simp only [Act.put, List.setIfInBounds_toArray, List.set_cons_zero, List.set_cons_succ]
            refine WpN.takeD (i := 3) (v := ?_) rfl rfl (by kernel_rfl) (fun _ _ _ h => h) (Or.inl ⟨by rfl, ?_⟩) (by assumption) ?_
            rotate_left
            · intro w hSw; rw [hSS.out] at hSw; obtain ⟨sw0, sw1, sw2, sw3, sw4, sw5⟩ := hSw; go_simp; try with_reducible rfl
            try simp only [Act.put, List.setIfInBounds_toArray, List.set_cons_zero, List.set_cons_succ]
            refine WpN.takeD (i := 4) (v := ?_) rfl rfl (by kernel_rfl) (fun _ _ _ h => h) (Or.inl ⟨by rfl, ?_⟩) (by assumption) ?_
            rotate_left
            · intro w hSw; rw [hSS.out] at hSw; obtain ⟨sw0, sw1, sw2, sw3, sw4, sw5⟩ := hSw; go_simp; try with_reducible rfl
            try simp only [Act.put, List.setIfInBounds_toArray, List.set_cons_zero, List.set_cons_succ]
            refine WpN.takeD (i := 5) (v := ?_) rfl rfl (by kernel_rfl) (fun _ _ _ h => h) (Or.inl ⟨by rfl, ?_⟩) (by assumption) ?_
            rotate_left
            · intro w hSw; rw [hSS.out] at hSw; obtain ⟨sw0, sw1, sw2, sw3, sw4, sw5⟩ := hSw; go_simp; try with_reducible rfl
            try simp only [Act.put, List.setIfInBounds_toArray, List.set_cons_zero, List.set_cons_succ]
            refine WpN.takeD (i := 6) (v := ?_) rfl rfl (by kernel_rfl) (fun _ _ _ h => h) (Or.inl ⟨by rfl, ?_⟩) (by assumption) ?_
            rotate_left
            · intro w hSw; rw [hSS.out] at hSw; obtain ⟨sw0, sw1, sw2, sw3, sw4, sw5⟩ := hSw; go_simp; try with_reducible rfl
            try simp only [Act.put, List.setIfInBounds_toArray, List.set_cons_zero, List.set_cons_succ]
            refine WpN.takeD (i := 7) (v := ?_) rfl rfl (by kernel_rfl) (fun _ _ _ h => h) (Or.inl ⟨by rfl, ?_⟩) (by assumption) ?_
            rotate_left
            · intro w hSw; rw [hSS.out] at hSw; obtain ⟨sw0, sw1, sw2, sw3, sw4, sw5⟩ := hSw; go_simp; try with_reducible rfl
            try simp only [Act.put, List.setIfInBounds_toArray, List.set_cons_zero, List.set_cons_succ]
            refine WpN.takeD (i := 8) (v := ?_) rfl rfl (by kernel_rfl) (fun _ _ _ h => h) (Or.inl ⟨by rfl, ?_⟩) (by assumption) ?_
            rotate_left
            · intro w hSw; rw [hSS.out] at hSw; obtain ⟨sw0, sw1, sw2, sw3, sw4, sw5⟩ := hSw; go_simp; try with_reducible rfl
            try simp only [Act.put, List.setIfInBounds_toArray, List.set_cons_zero, List.set_cons_succ]
            refine WpN.takeD (i := 9) (v := ?_) rfl rfl (by kernel_rfl) (fun _ _ _ h => h) (Or.inl ⟨by rfl, ?_⟩) (by assumption) ?_
            rotate_left
            · intro w hSw; rw [hSS.out] at hSw; obtain ⟨sw0, sw1, sw2, sw3, sw4, sw5⟩ := hSw; go_simp; try with_reducible rfl
            try simp only [Act.put, List.setIfInBounds_toArray, List.set_cons_zero, List.set_cons_succ]
            refine WpN.takeD (i := 10) (v := ?_) rfl rfl (by kernel_rfl) (fun _ _ _ h => h) (Or.inl ⟨by rfl, ?_⟩) (by assumption) ?_
            rotate_left
            · intro w hSw; rw [hSS.out] at hSw; obtain ⟨sw0, sw1, sw2, sw3, sw4, sw5⟩ := hSw; go_simp; try with_reducible rfl
            try simp only [Act.put, List.setIfInBounds_toArray, List.set_cons_zero, List.set_cons_succ]
            refine WpN.takeD (i := 11) (v := ?_) rfl rfl (by kernel_rfl) (fun _ _ _ h => h) (Or.inl ⟨by rfl, ?_⟩) (by assumption) ?_
            rotate_left
            · intro w hSw; rw [hSS.out] at hSw; obtain ⟨sw0, sw1, sw2, sw3, sw4, sw5⟩ := hSw; go_simp; try with_reducible rfl
            try simp only [Act.put, List.setIfInBounds_toArray, List.set_cons_zero, List.set_cons_succ]
            refine WpN.takeD (i := 12) (v := ?_) rfl rfl (by kernel_rfl) (fun _ _ _ h => h) (Or.inl ⟨by rfl, ?_⟩) (by assumption) ?_
            rotate_left
            · intro w hSw; rw [hSS.out] at hSw; obtain ⟨sw0, sw1, sw2, sw3, sw4, sw5⟩ := hSw; go_simp; try with_reducible rfl
            try simp only [Act.put, List.setIfInBounds_toArray, List.set_cons_zero, List.set_cons_succ]
            refine WpN.takeD (i := 13) (v := ?_) rfl rfl (by kernel_rfl) (fun _ _ _ h => h) (Or.inl ⟨by rfl, ?_⟩) (by assumption) ?_
            rotate_left
            · intro w hSw; rw [hSS.out] at hSw; obtain ⟨sw0, sw1, sw2, sw3, sw4, sw5⟩ := hSw; go_simp; try with_reducible rfl
            try simp only [Act.put, List.setIfInBounds_toArray, List.set_cons_zero, List.set_cons_succ]
            refine WpN.takeD (i := 14) (v := ?_) rfl rfl (by kernel_rfl) (fun _ _ _ h => h) (Or.inl ⟨by rfl, ?_⟩) (by assumption) ?_
            rotate_left
            · intro w hSw; rw [hSS.out] at hSw; obtain ⟨sw0, sw1, sw2, sw3, sw4, sw5⟩ := hSw; go_simp; try with_reducible rfl
            try simp only [Act.put, List.setIfInBounds_toArray, List.set_cons_zero, List.set_cons_succ]
            refine WpN.takeD (i := 15) (v := ?_) rfl rfl (by kernel_rfl) (fun _ _ _ h => h) (Or.inl ⟨by rfl, ?_⟩) (by assumption) ?_
            rotate_left
            · intro w hSw; rw [hSS.out] at hSw; obtain ⟨sw0, sw1, sw2, sw3, sw4, sw5⟩ := hSw; go_simp; try with_reducible rfl
            try simp only [Act.put, List.setIfInBounds_toArray, List.set_cons_zero, List.set_cons_succ]
            refine WpN.takeD (i := 16) (v := ?_) rfl rfl (by kernel_rfl) (fun _ _ _ h => h) (Or.inl ⟨by rfl, ?_⟩) (by assumption) ?_
            rotate_left
            · intro w hSw; rw [hSS.out] at hSw; obtain ⟨sw0, sw1, sw2, sw3, sw4, sw5⟩ := hSw; go_simp; try with_reducible rfl
            try simp only [Act.put, List.setIfInBounds_toArray, List.set_cons_zero, List.set_cons_succ]
            refine WpN.takeD (i := 17) (v := ?_) rfl rfl (by kernel_rfl) (fun _ _ _ h => h) (Or.inl ⟨by rfl, ?_⟩) (by assumption) ?_
            rotate_left
            · intro w hSw; rw [hSS.out] at hSw; obtain ⟨sw0, sw1, sw2, sw3, sw4, sw5⟩ := hSw; go_simp; try with_reducible rfl
            try simp only [Act.put, List.setIfInBounds_toArray, List.set_cons_zero, List.set_cons_succ]
            refine WpN.one (i := 18) rfl (by kernel_rfl) fun K hK => ?_
            go_wp2_with fail
            have G7 : Blk (wc.drew.alloc (Obj.cells #[.int .i64 a, .int .i64 a2, .int .i64 a3, .int .i64 a4] 76)) gx 25 #[.int .i64 h, .slice A lv.length cA, .slice (some ⟨ge, 0, none⟩) (ini.length + 1) cA'] := M5.gr.drew.alloc _
            have hS7 := HSB.out _ G7 (BE.drew.alloc _) (B5.drew.alloc _)
            refine hK.out _ _ ⟨fun _ => hS7, ?_⟩
            clear hK K
            try simp only [Act.put, List.setIfInBounds_toArray, List.set_cons_zero, List.set_cons_succ]
            refine WpN.one (i := 19) rfl (by kernel_rfl) fun K hK => ?_
            refine wp_append_lie (enc := legC) (.tmp 164) (.tmp 178) 72 rfl (gx + 1) 76 j0 _ 4 32 Tryd.underlying72 hj hj0 hj1 hj2 rfl (by decide) _ it.1.legs ⟨a, a2, a3, a4⟩ rfl HL.out.own #[.int .i64 a, .int .i64 a2, .int .i64 a3, .int .i64 a4] rfl wc.drew.heap.size rfl rfl rfl leg_four (by omega) (by decide) hgx7 ?_
            intro gn cap w6 hown6 hbb hkp hgn
            have B6 := hkp _ _ _ B5.drew (HL.out.own.other B5.drew (by decide))
            have BR6 := hkp _ _ _ HBR7.out.drew (HL.out.own.other HBR7.out.drew (by decide))
            have BP6 := hkp _ _ _ HBP7.out.drew (HL.out.own.other HBP7.out.drew (by decide))
            obtain ⟨G6, hE6, M6⟩ := M5.drew.leg hown6 hkp (hgn.imp id id) ⟨i0, i1, i2, i3⟩
            have E6 := hE6 _ BE.drew
            have hS8 := HSB.out _ G6 E6 B6
            refine hK.out _ _ ⟨fun _ => hS8, ?_⟩
            clear hK K
            try simp only [Act.put, List.setIfInBounds_toArray]
            refine WpN.takeD (i := 20) (v := ?_) rfl rfl (by kernel_rfl) (fun _ _ _ h => h) (Or.inl ⟨by rfl, ?_⟩) (by assumption) ?_
            rotate_left
            · intro w hSw; rw [hSS.out] at hSw; obtain ⟨sw0, sw1, sw2, sw3, sw4, sw5⟩ := hSw; go_simp; try with_reducible rfl
            try simp only [Act.put]
            refine WpN.takeD (i := 21) (v := ?_) rfl rfl (by kernel_rfl) (fun _ _ _ h => h) (Or.inl ⟨by rfl, ?_⟩) (by assumption) ?_
            rotate_left
            · intro w hSw; rw [hSS.out] at hSw; obtain ⟨sw0, sw1, sw2, sw3, sw4, sw5⟩ := hSw; go_simp; try with_reducible rfl
            try simp only [Act.put]
            refine WpN.one (i := 22) rfl (by kernel_rfl) fun K hK => ?_
            obtain ⟨y1, y2, y3⟩ := E6.facts
            go_wp2_with fail
            refine hK.out _ _ ⟨fun h => by omega, ?_⟩
            clear hK K
            refine WpN.done (by kernel_rfl) ?_ _
            clear y1 y2 y3
            go_upto_region 25 with fail
            have hbe := ((below_drew hbw7).trans (hbb.mono (by omega))).setCell (p := ⟨ge, ini.length * 3 + 2, none⟩) (by simp only; omega) (.slice (some ⟨gn, 0, none⟩) (it.1.legs.length + 1) cap)
            have BRe := BR6.far (p := ⟨ge, ini.length * 3 + 2, none⟩) (by simp only; omega) (.slice (some ⟨gn, 0, none⟩) (it.1.legs.length + 1) cap)
            have BPe := keep_store E6 (by decide) (ini.length * 3 + 2) (.slice (some ⟨gn, 0, none⟩) (it.1.legs.length + 1) cap) _ _ BP6
            have Me := M6
            cases o with
            | false =>
              have HF : Hid (parseD l = (noG, (k : Int) + 1, 3)) := Lib.hid (HLF.out.2 rfl)
              obtain ⟨t1, t2, t3⟩ := BRe.facts
              clear HLF
              go_wp2_with fail
              refine bodyPost_ret (v := .tuple #[gV none 0 none 0 noG, .int .i64 ((k : Int) + 1), .int .i64 3]) (by simp [results, Tryd.results18, go_sem, t1]) rfl ?_
              rw [HF.out]
              exact ⟨none, 0, none, 0, rfl, noG_at _, ((hbe.setCell (Nat.le_refl _) _).setCell (Nat.le_refl _) _).setCell (Nat.le_refl _) _⟩
            | true =>
              obtain ⟨hkn, hpd⟩ := HLF.out.some (HN2.out)
              have HPD := Lib.hid hpd
              clear HLF hpd
              go_wp2_with fail
              go_roundw
              case rel => exact ⟨k + 1, _, _, _, _, _, by go_num, by omega, Me, BRe, BPe, hbe, by rw [gOf_eq]; exact HPD⟩
              case measure => simp [intOf]; omega
      have hv9 : v ≠ wTime ∧ v ≠ wVertex ∧ v ≠ wEdge ∧ v ≠ wLeg := ⟨hv0, hv1, hv2, hv3⟩
      clear hv0 hv1 hv2 hv3
      have HV := Lib.hid hv9
      clear hv9
      have q1 : (v == [116, 105, 109, 101]) = false := word_ne HV.out.1
      have q2 : (v == [118, 101, 114, 116, 101, 120]) = false := word_ne HV.out.2.1
      have q3 : (v == [101, 100, 103, 101]) = false := word_ne HV.out.2.2.1
      have q4 : (v == [108, 101, 103]) = false := word_ne HV.out.2.2.2
      have HF : Hid (parseD l = (noG, (k : Int) + 1, 3)) := Lib.hid (HLF.out.none (stepN_other HV.out.1 HV.out.2.1 HV.out.2.2.1 HV.out.2.2.2))
      clear HLF
      go_wp2_with fail
      refine bodyPost_ret (v := .tuple #[gV none 0 none 0 noG, .int .i64 ((k : Int) + 1), .int .i64 3]) (by simp [results, Tryd.results18, go_sem, c1]) rfl ?_
      rw [HF.out]
      exact ⟨none, 0, none, 0, rfl, noG_at _, ((hbw7.setCell (Nat.le_refl _) _).setCell (Nat.le_refl _) _).setCell (Nat.le_refl _) _⟩
end Go.Proofs.YtdpibehpmghghaaDoor
