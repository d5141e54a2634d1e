/- Several texts in one: BspRound, BspStart. -/
import Derived.Test.YtjcimdpldlamfaaGreatDoorBd1aa46607c4
import Derived.Test.YtjcimdpldlamfaaGreatDoorBd6e36417bf6
import Derived.Test.YtjcimdpldlamfaaGreatDoorBdf6b8f66993
/- The walk of (*bsp.engine).round (printed by genround.py). -/
namespace Go.Proofs.YtjcimdpldlamfaaGreatDoor
open Go.RowKit

/-- What a take makes of a vertex. -/
def TakeIs (h : Int) (msgs : List PieceD) (it it' : VItem) : Prop := Lies h it'.1.1 ∧ (∀ t, val it'.1.1 t = minAt msgs t (val it.1.1 t)) ∧ FreshIs h it'.1.1 (val it.1.1) it'.2.1
/-- The first v vertices have taken their mail. -/
structure RoundK (h : Int) (ms : List MailD) (items items' : List VItem) (v : Nat) : Prop where
 len : items'.length = items.length
 done : ∀ (i : Nat) it it', i < v → items[i]? = some it → items'[i]? = some it' → TakeIs h (boxL ms i) it it'
 rest : ∀ i : Nat, v ≤ i → items'[i]? = items[i]?
theorem RoundK.zero {h : Int} {ms : List MailD} {items : List VItem} : RoundK h ms items items 0 := ⟨rfl, fun i _ _ hi => by omega, fun _ _ => rfl⟩
theorem RoundK.next {h : Int} {ms : List MailD} {items items' : List VItem} {v : Nat} {it it' : VItem} (hK : RoundK h ms items items' v) (hi : items[v]? = some it) (ht : TakeIs h (boxL ms v) it it') : RoundK h ms items (items'.set v it') (v + 1) := by
 have hl := lt_of_get hi
 refine ⟨by rw [List.length_set]; exact hK.len, fun i x x' hiv hx hx' => ?_, fun i hvi => ?_⟩
 ·by_cases e : v = i
  ·subst e
   rw [List.getElem?_set_self (by rw [hK.len]; exact hl)] at hx'
   rw [hi] at hx
   obtain rfl := Option.some.inj hx
   obtain rfl := Option.some.inj hx'
   exact ht
  ·rw [List.getElem?_set_ne e] at hx'
   exact hK.done i x x' (by omega) hx hx'
 ·rw [List.getElem?_set_ne (by omega)]
  exact hK.rest i (by omega)
def isSome (items' : List VItem) (v : Nat) : Bool := (items'.take v).any fun it => decide (0 < it.2.1.length)
theorem isSome_next {items' : List VItem} {v : Nat} {it' : VItem} (h : v < items'.length) : isSome (items'.set v it') (v + 1) = (isSome items' v || decide (0 < it'.2.1.length)) := by
 unfold isSome
 rw [List.take_add_one, List.getElem?_set_self h, List.any_append, List.take_set_of_le (Nat.le_refl v)]
 simp
def RoundOut (w0 w : World) (e : Nat) (A : Option Addr) (c : Nat) (A' : Option Addr) (c' : Nat) (g : GraphD) (p : Int) (Av : Option Addr) (cv : Nat) (items : List VItem) (en : Ending) (w' : World) : Prop := ∃ items' : List VItem,
 en = .returned (.bool (isSome items' items'.length)) ∧ EngV w' w0.heap.size e A c A' c' g p Av cv items' ∧ Hid (RoundK g.h (sendL g p (frsOf items)) items items' items.length) ∧ Below w0.heap.size w0 w' ∧ ∀ b t cs, Blk w b t cs → t ≠ 192 → Blk w' b t cs
set_option maxRecDepth 100000 in
set_option maxHeartbeats 8000000 in
theorem round_any (e c c' cv cm : Nat) (A A' Av Am : Option Addr) (g : GraphD) (p : Int) (items : List VItem) (ms : List MailD) (w0 w : World) (hE : EngV w w0.heap.size e A c A' c' g p Av cv items) (hms : ms = sendL g p (frsOf items))
  (hG0 : GraphAt w0 A c A' c' g) (hb0 : Below w0.heap.size w0 w) (hL : ∀ it, it ∈ items → Lies g.h it.1.1) (hM : SlAt RMail 4 w Am ms) (hml : ms.length ≤ 60000)
  (hmi : ∀ m, m ∈ ms → (0 ≤ m.1 ∧ m.1 < items.length) ∧ MsgIn g.h m.2) :
  Calls Tryz.prog 151 #[.pointer (some ⟨e, 0, none⟩), .slice Am ms.length cm] w (RoundOut w0 w e A c A' c' g p Av cv items) := by
 obtain ⟨i0, hi, hz0, hz1, hz2⟩ := info_msg2
 have hV := hE.val
 have hnl : items.length ≤ 12 := by rw [hE.len]; exact hV.nl
 have hmk := make_boxes items.length (by omega)
 have HMS := Lib.hid hms; have HG0 := Lib.hid hG0; have HB0 := Lib.hid hb0; have HL := Lib.hid hL; have HMI := Lib.hid hmi; have HV := Lib.hid hV; have HE := Lib.hid hE
 have hcell : w.cell? ⟨e, 4, none⟩ = some (.slice Av items.length cv) := hE.eng.blk.cell 4
 have hel := hE.eng.blk.lt
 obtain ⟨bm, om, hMs⟩ := hM
 have HM := Lib.hid hMs
 clear hms hG0 hb0 hL hmi hV hMs hE
 go_enter Tryz.func151, Tryz.ntmps151
 go_wp2_with fail
 obtain ⟨gb, hgb⟩ : ∃ gb : Nat, w.heap.size = gb := ⟨_, rfl⟩
 obtain ⟨wb, hwb⟩ : ∃ wb : World, w.alloc (Obj.cells (madeCells #[.slice none 0 0] items.length) 213) = wb := ⟨_, rfl⟩
 have hBX : Boxes wb gb gb (List.replicate items.length ([], none, 0)) := by rw [← hwb]; exact Boxes.made hgb.symm
 have hbb : Below gb w wb := by rw [← hwb, ← hgb]; exact ext_alloc (Below.refl _ _) _
 rw [hgb, hwb]
 clear hwb hmk hcell hel
 go_loopw [18] (fun x wt => ∃ (k : Nat) (bx : List VSide), k ≤ ms.length ∧ x = .int .i64 k ∧ bx.length = items.length ∧ Hid (∀ (i : Nat) y, bx[i]? = some y → y.1 = boxL (ms.take k) i) ∧ Boxes wt gb gb bx ∧ Below gb w wt) (fun x _ => ms.length - (intOf x).toNat)
 case atStart =>
  refine ⟨0, _, Nat.zero_le _, rfl, by simp, Lib.hid fun i y hy => ?_, hBX, hbb⟩
  obtain rfl := List.eq_of_mem_replicate (List.mem_of_getElem? hy)
  rfl
 case round =>
  clear hBX hbb
  obtain ⟨k, bx, hk, rfl, hbl, HBX, hBx, hb⟩ := hrel
  have hgw : gb ≤ wr.heap.size := by rw [← hgb]; exact hb.size
  by_cases hlt : k < ms.length
  case pos =>
   obtain ⟨m, hm⟩ := get_lt hlt
   obtain ⟨rfl, hbm, z0, z1, z2, z3⟩ := HM.out k m hm
   unfold cellIs at z0 z1 z2 z3
   rw [hgb] at hbm
   rw [← hb.cell (by exact hbm)] at z0 z1 z2 z3
   have hmr := HMI.out m (List.mem_of_getElem? hm)
   have HMR := Lib.hid hmr.2
   obtain ⟨to, q⟩ := m
   obtain ⟨⟨ht0, ht1⟩, _⟩ := hmr
   simp only at ht0 ht1 z0 z1 z2 z3
   have HMK := Lib.hid hm
   clear hm
   have hbm2 : bm < wr.heap.size := Nat.lt_of_lt_of_le hbm hgw
   go_wp2_with fail
   obtain ⟨x, hx⟩ := get_lt (show to.toNat < bx.length by omega)
   obtain ⟨lx, Ax, cx⟩ := x
   obtain ⟨gm, hgm⟩ : ∃ gm : Nat, wr.heap.size = gm := ⟨_, rfl⟩
   obtain ⟨wq, hwq⟩ : ∃ wq : World, wr.alloc (Obj.cells #[.int .i64 to, .int .i64 q.f, .int .i64 q.t, .int .i64 q.v] 212) = wq := ⟨_, rfl⟩
   have BM : Blk wq gm 212 #[.int .i64 to, .int .i64 q.f, .int .i64 q.t, .int .i64 q.v] := by rw [← hwq, ← hgm]; exact Blk.new _ _ _
   have hq0 : Below wr.heap.size wr wq := by rw [← hwq]; exact ext_alloc (Below.refl _ _) _
   have hBq := hBx.ext hq0
   have hbq : Below gb w wq := hb.trans (hq0.mono hgw)
   have hxl : lx.length ≤ 60000 := by
    have h1 := HBX.out _ _ hx
    have h2 := boxL_len (ms.take k) (to.toNat : Int)
    rw [List.length_take] at h2
    simp only at h1
    rw [h1]
    omega
   have hgq : gb ≤ wq.heap.size := Nat.le_trans hgw hq0.size
   have hcx : wq.cell? ⟨gb, to.toNat, none⟩ = some (.slice Ax lx.length cx) := by
    rw [hBq.blk.cell]
    simp [hx, sV]
   have HX := Lib.hid hx
   rw [hgm, hwq]
   obtain ⟨S1, hSS⟩ : ∃ S1 : World → Prop, Hid (S1 = fun w' => w'.cell? ⟨gm, 0, none⟩ = some (.int .i64 to) ∧ w'.cell? ⟨gm, 1, none⟩ = some (.int .i64 q.f) ∧ w'.cell? ⟨gm, 2, none⟩ = some (.int .i64 q.t) ∧ w'.cell? ⟨gm, 3, none⟩ = some (.int .i64 q.v) ∧ w'.cell? ⟨gb, to.toNat, none⟩ = some (.slice Ax lx.length cx)) := ⟨_, Lib.hid rfl⟩
   have HSB : Hid (∀ w', Blk w' gm 212 #[.int .i64 to, .int .i64 q.f, .int .i64 q.t, .int .i64 q.v] → w'.cell? ⟨gb, to.toNat, none⟩ = some (.slice Ax lx.length cx) → S1 w') := Lib.hid fun w' h1 h2 => by rw [hSS.out]; exact ⟨h1.cell 0, h1.cell 1, h1.cell 2, h1.cell 3, h2⟩
   have hS0 : S1 wq.drew := HSB.out _ BM.drew hcx
   have hxo := hBq.sides.own _ (List.mem_of_getElem? hx)
   unfold sV at hxo
   simp only at hxo
   have hgbl := hBq.blk.lt
   have hto : ((to.toNat : Nat) : Int) = to := Int.toNat_of_nonneg ht0
   have HTO := Lib.hid hto
   clear hto hx z0 z1 z2 z3 hgm hwq hBx hb hq0
   refine WpN.begin (S := S1) 13 (by kernel_rfl) ?_
   refine tN 0 ?_ ?_ <| tN 1 ?_ ?_ <| tN 2 ?_ ?_ <| tN 3 ?_ ?_ <| tN 4 ?_ ?_ <| tN 5 ?_ ?_ <| tN 6 ?_ ?_ <| tN 7 ?_ ?_ <| tN 8 ?_ ?_ <| tN 9 ?_ ?_ ?_
   iterate 10
    rotate_left
    ·intro w hSw; rw [hSS.out] at hSw; obtain ⟨sw0, sw1, sw2, sw3, sw4⟩ := hSw; (try simp only [pS]); go_simp; try with_reducible rfl
   try simp only [pS]
   refine WpN.one (i := 10) rfl (by kernel_rfl) fun K hK => ?_
   go_wp2_with fail
   have hS7 : S1 (wq.drew.alloc (Obj.cells #[.int .i64 q.f, .int .i64 q.t, .int .i64 q.v] 210)) := HSB.out _ (BM.drew.alloc _) (cell_keep (ext_alloc (below_drew (Below.refl _ _)) _) hcx)
   refine hK.out _ _ ⟨fun _ => hS7, ?_⟩
   clear hK K
   try simp only [pS]
   refine WpN.one (i := 11) rfl (by kernel_rfl) fun K hK => ?_
   refine wp_append_lie (enc := pieceC) (.tmp 29) (.tmp 32) 213 rfl gb 210 i0 _ 3 24 Tryz.underlying213 hi hz0 hz1 hz2 rfl (by decide) (.slice Ax lx.length cx) lx q rfl hxo.drew #[.int .i64 q.f, .int .i64 q.t, .int .i64 q.v] rfl wq.drew.heap.size rfl rfl rfl (piece_ints q) (by omega) (by decide) hgq ?_
   intro gn cap w6 hown6 hbb6 hkp hgn
   have M6 := hkp _ _ _ BM.drew (hxo.drew.other BM.drew (by decide))
   have X6 := hkp _ _ _ hBq.blk.drew (hxo.drew.other hBq.blk.drew (by decide))
   have hcx6 : w6.cell? ⟨gb, to.toNat, none⟩ = some (.slice Ax lx.length cx) := by
    rw [X6.cell]
    simp [HX.out, sV]
   have hS8 := HSB.out _ M6 hcx6
   refine hK.out _ _ ⟨fun _ => hS8, ?_⟩
   clear hK K
   try simp only [pS]
   refine tN 12 ?_ ?_ ?_
   rotate_left
   ·intro w hSw; rw [hSS.out] at hSw; obtain ⟨sw0, sw1, sw2, sw3, sw4⟩ := hSw; (try simp only [pS]); go_simp; try with_reducible rfl
   try simp only [pS]
   refine WpN.one (i := 13) rfl (by kernel_rfl) fun K hK => ?_
   have f6 : w6.frozen? ⟨gb, to.toNat, none⟩ = false := X6.frozen _
   have y6 := X6.lt
   go_wp2_with fail
   refine hK.out _ _ ⟨fun h => by omega, ?_⟩
   clear hK K
   refine WpN.done (by kernel_rfl) ?_ _
   have hBn := hBq.put (W := w6.setCell ⟨gb, to.toNat, none⟩ (.slice (some ⟨gn, 0, none⟩) (lx.length + 1) cap)) (m := q) HX.out hown6 hkp hgn rfl
   clear f6 y6 hcx6 hS8 hS7 hS0 hSS HSB hkp hgn
   go_wp2_with fail
   go_roundw
   case rel =>
    refine ⟨k + 1, bx.set to.toNat (lx ++ [q], some ⟨gn, 0, none⟩, cap), by omega, by go_num, by simp [hbl], Lib.hid fun i y hy => ?_, hBn, ((below_drew hbq).trans hbb6).setCell (Nat.le_refl _) _⟩
    rw [boxL_snoc HMK.out]
    by_cases e9 : to.toNat = i
    ·subst e9
     rw [List.getElem?_set_self (by omega)] at hy
     obtain rfl := Option.some.inj hy
     have h1 := HBX.out _ _ HX.out
     simp only at h1 ⊢
     rw [if_pos HTO.out.symm, h1]
    ·rw [List.getElem?_set_ne e9] at hy
     rw [if_neg (fun h => e9 (by simp only at h; omega)), List.append_nil]
     exact HBX.out i y hy
   case measure => simp [intOf]; omega
  case neg =>
   obtain rfl : k = ms.length := by omega
   have HB : Hid (∀ (i : Nat) y, bx[i]? = some y → y.1 = boxL ms i) := Lib.hid (by
    have h1 := HBX.out
    rwa [List.take_length] at h1)
   have hbw : Below w.heap.size w wr := by rw [hgb]; exact hb
   have hE1 := HE.out.ext hbw
   have hb1 := ext_trans HB0.out hbw
   have hcell : wr.cell? ⟨e, 4, none⟩ = some (.slice Av items.length cv) := hE1.eng.blk.cell 4
   have hel := hE1.eng.blk.lt
   have hBx2 := hBx
   have hw0 : w0.heap.size ≤ w.heap.size := HB0.out.size
   have HKP : Hid (Hid (∀ b t cs, Blk w b t cs → t ≠ 192 → Blk wr b t cs)) := Lib.hid (Lib.hid fun b t cs hB _ => hB.ext hbw)
   clear HBX hBx hb hbw
   go_wp2_with fail
   clear hcell hel
   go_loopw [8, 41] (fun b x wt => ∃ (v : Nat) (items' : List VItem), v ≤ items.length ∧ x = .int .i64 v ∧ b = .bool (isSome items' v) ∧ Hid (RoundK g.h ms items items' v) ∧ Eng wt w0.heap.size e A c A' c' g p Av cv items' ∧ Boxes wt gb gb bx ∧ Below w0.heap.size w0 wt ∧ gb ≤ wt.heap.size ∧ Hid (∀ b t cs, Blk w b t cs → t ≠ 192 → Blk wt b t cs)) (fun _ x _ => items.length - (intOf x).toNat)
   case atStart => exact ⟨0, items, Nat.zero_le _, rfl, rfl, Lib.hid RoundK.zero, hE1.eng, hBx2, hb1, hgw, HKP.out⟩
   case round =>
    clear hE1 hBx2 hb1 hgw HKP
    obtain ⟨v, items', hv, rfl, rfl, HK, hE2, hB2, hb2, hgw, HKP⟩ := hrel
    by_cases hlt2 : v < items.length
    case neg =>
     obtain rfl : v = items.length := by omega
     go_wp2_with fail
     go_ret
     have e9 : isSome items' items.length = isSome items' items'.length := by rw [HK.out.len]
     refine ⟨items', ret_bool e9, ⟨hE2, by rw [HK.out.len]; exact HE.out.len, HV.out, fun it' hi' => ?_⟩, Lib.hid (by rw [← HMS.out]; exact HK.out), hb2, HKP.out⟩
     obtain ⟨i, hi9⟩ := List.getElem?_of_mem hi'
     have hil : i < items.length := by have := lt_of_get hi9; rwa [HK.out.len] at this
     obtain ⟨it, hit⟩ := get_lt hil
     have h9 := (HK.out.done i it it' hil hit hi9).2.2
     have h8 := h9.len (by have := HV.out.h0; omega)
     exact ⟨h9.in_, by have := HV.out.h1; omega⟩
    case pos =>
     obtain ⟨it, hit⟩ := get_lt hlt2
     have hit' : items'[v]? = some it := by rw [HK.out.rest v (Nat.le_refl _)]; exact hit
     have hlen' : items'.length = items.length := HK.out.len
     have hvl : v < items'.length := by omega
     obtain ⟨gv, cs, rfl, hgv, hBV, hcz, hlc, hcm, hcs, hsl⟩ := hE2.vert (by omega)
     obtain ⟨bxv, hbx⟩ := get_lt (show v < bx.length by omega)
     obtain ⟨lb, Ab, cb⟩ := bxv
     have hLB : lb = boxL ms v := HB.out v _ hbx
     have hlbl : lb.length ≤ 100000 := by rw [hLB]; have := boxL_len ms v; omega
     have hEc : wr.cell? ⟨e, 4, none⟩ = some (.slice (some ⟨gv, 0, none⟩) items'.length cv) := hE2.blk.cell 4
     have hBc : wr.cell? ⟨gb, v, none⟩ = some (.slice Ab lb.length cb) := by
      rw [hB2.blk.cell]
      simp [hbx, sV]
     have hit0 : cs[v * 2]? = some (.slice it.1.2.1 it.1.1.length it.1.2.2) := (hcs v it hit').1
     have hit1 : cs[v * 2 + 1]? = some (sV it.2) := (hcs v it hit').2
     have hLi := HL.out it (List.mem_of_getElem? hit)
     have hmsg : ∀ x, x ∈ lb → MsgIn g.h x := fun x hx => by
      rw [hLB] at hx
      exact (HMI.out _ (mem_box.1 hx)).2
     have hS9 : PiecesAt wr it.1.2.1 it.1.2.2 it.1.1 := ownPieces_at (hE2.st.own _ (List.mem_map.2 ⟨it, List.mem_of_getElem? hit', rfl⟩)) (lies_msg hLi) HV.out.h1
     have hM9 : PiecesAt wr Ab cb lb := ownPieces_at (x := (lb, Ab, cb)) (hB2.sides.own _ (List.mem_of_getElem? hbx)) hmsg HV.out.h1
     have hd0 := below_drew (Below.refl wr.heap.size wr)
     have htk := take_any g.h gv (v * 2) cs it.1.2.1 Ab it.1.2.2 cb it.1.1 lb (sV it.2) wr.drew hBV.drew hsl hit0 hit1 (hS9.ext hd0) (hM9.ext hd0) hLi hmsg HV.out.h0 HV.out.h1 hlbl
     have HTK := Lib.hid htk
     have HCS := Lib.hid hcs; have HSL := Lib.hid hsl; have HIT := Lib.hid hit; have HIT' := Lib.hid hit'; have HLB := Lib.hid hLB; have HL' := Lib.hid hlen'
     have hgvl := hBV.lt
     have hgbl := hB2.blk.lt
     have hel := hE2.blk.lt
     clear htk hit hit' hLB hcs hsl hit0 hit1 hLi hmsg hS9 hM9 hbx hlen'
     go_wp2_with fail
     obtain ⟨S1, hSS⟩ : ∃ S1 : World → Prop, Hid (S1 = fun w' => w'.cell? ⟨e, 4, none⟩ = some (.slice (some ⟨gv, 0, none⟩) items'.length cv) ∧ w'.cell? ⟨gb, v, none⟩ = some (.slice Ab lb.length cb)) := ⟨_, Lib.hid rfl⟩
     have hS0 : S1 wr.drew := by rw [hSS.out]; exact ⟨hEc, hBc⟩
     refine WpN.begin (S := S1) 10 (by kernel_rfl) ?_
     refine tN 0 ?_ ?_ <| tN 1 ?_ ?_ <| tN 2 ?_ ?_ <| tN 3 ?_ ?_ <| tN 4 ?_ ?_ <| tN 5 ?_ ?_ <| tN 6 ?_ ?_ <| tN 7 ?_ ?_ <| tN 8 ?_ ?_ <| tN 9 ?_ ?_ ?_
     iterate 10
      rotate_left
      ·intro w hSw; rw [hSS.out] at hSw; obtain ⟨sw0, sw1⟩ := hSw; (try simp only [pS]); go_simp; try with_reducible rfl
     try simp only [pS]
     refine WpN.one (i := 10) rfl (by kernel_rfl) fun K hK => ?_
     go_wp2_with fail
     refine HTK.out.mono ?_
     rintro en9 w9 ⟨rfl, A2, c2, S2, A3, c3, F2, HT, hB9, hP9, hN9, hF9, hO9⟩
     refine hK.out _ _ ⟨fun h => by omega, ?_⟩
     clear hK K
     try simp only [pS]
     refine WpN.done (by kernel_rfl) ?_ _
     have HTI : Hid (TakeIs g.h (boxL ms v) it ((S2, A2, c2), (F2, A3, c3))) := Lib.hid (by
      have h1 := HT.out
      rw [HLB.out] at h1
      exact h1)
     have hEd := hE2.ext (below_drew (Below.refl wr.heap.size wr))
     have hb9 : Below w0.heap.size w0 w9 := hO9.under (below_drew hb2) hgv hgvl
     have hE9 := hEd.took (it' := ((S2, A2, c2), (F2, A3, c3))) HIT'.out rfl hBV.drew hcz hlc hcm HCS.out HSL.out hgv hB9 hO9 (hN9.imp (fun h => by
      obtain ⟨h1, h2, h3⟩ := h
      subst h1 h2 h3
      rfl) id) hF9.own (by have := hb2.size; exact this) (HG0.out.ext hb9)
     have hBx9 := (hB2.ext (below_drew (Below.refl wr.heap.size wr))).only hO9 hBV.drew
     have hEc9 : w9.cell? ⟨e, 4, none⟩ = some (.slice (some ⟨gv, 0, none⟩) items'.length cv) := by
      have h1 := hE9.blk.cell 4
      rw [List.length_set] at h1
      exact h1
     have hVc9 : w9.cell? ⟨gv, v * 2 + 1, none⟩ = some (.slice A3 F2.length c3) := (hB9.cell _).trans (Array.getElem?_setIfInBounds_self_of_lt (by simp [hcz]; omega))
     have hel9 := hE9.blk.lt
     have hgv9 := hB9.lt
     have hgw9 : gb ≤ w9.heap.size := Nat.le_trans hgw hO9.size
     have HSN : Hid (isSome (items'.set v ((S2, A2, c2), (F2, A3, c3))) (v + 1) = (isSome items' v || decide (0 < F2.length))) := Lib.hid (isSome_next hvl)
     have HKP9 : Hid (∀ b t cs, Blk w b t cs → t ≠ 192 → Blk w9 b t cs) := Lib.hid fun b t cs hB ht => by
      have h1 := HKP.out b t cs hB ht
      exact hO9.blk (blk_ne h1 hBV ht) h1.drew
     have HE9 := Lib.hid hE9; have HBX9 := Lib.hid hBx9
     have hF2l : F2.length ≤ 9223372036854775807 := hF9.toPiecesAt.len
     clear hE9 hBx9 hEd hB9 hP9 hN9 hF9 hO9 hEc hBc hSS hS0 HTK hE2 hB2 hb2 hgw hBV
     obtain ⟨sm, hsm⟩ : ∃ sm, isSome items' v = sm := ⟨_, rfl⟩
     have HSM := Lib.hid hsm
     rw [hsm]
     clear hsm
     by_cases hF : 0 < F2.length
     case pos =>
      cases sm
      all_goals
       go_wp2_with fail
       go_roundw
       case rel => exact ⟨v + 1, items'.set v ((S2, A2, c2), (F2, A3, c3)), by omega, by go_num, by rw [HSN.out, HSM.out]; simp [hF], Lib.hid (HK.out.next HIT.out HTI.out), HE9.out, HBX9.out, hb9, hgw9, HKP9⟩
       case measure => simp [intOf]; omega
     case neg =>
      cases sm
      all_goals
       go_wp2_with fail
       go_roundw
       case rel => exact ⟨v + 1, items'.set v ((S2, A2, c2), (F2, A3, c3)), by omega, by go_num, by rw [HSN.out, HSM.out]; simp [hF], Lib.hid (HK.out.next HIT.out HTI.out), HE9.out, HBX9.out, hb9, hgw9, HKP9⟩
       case measure => simp [intOf]; omega
end Go.Proofs.YtjcimdpldlamfaaGreatDoor
/- The walk of bsp.start (printed by genstart.py). -/
namespace Go.Proofs.YtjcimdpldlamfaaGreatDoor
open Go.RowKit

theorem info_vertex : (Tryz.prog.info? 192).map (fun i => (i.zero, i.size, i.bytes)) = some (some (.agg #[.slice none 0 0, .slice none 0 0]), 2, 48) := by kernel_rfl
theorem info_vertex2 : ∃ i, Tryz.prog.info? 192 = some i ∧ i.zero = some (.agg #[.slice none 0 0, .slice none 0 0]) ∧ i.size = 2 ∧ i.bytes = 48 := by
 obtain ⟨i0, hi, hzz⟩ := Option.map_eq_some_iff.1 info_vertex
 simp only [Prod.mk.injEq] at hzz
 exact ⟨i0, hi, hzz.1, hzz.2.1, hzz.2.2⟩
theorem vertex_zero : ∀ (i : Nat) u, (Value.agg #[.slice none 0 0, .slice none 0 0]).cells[i]? = some u → IsSl u := fun i u h => by
 match i, h with
 | 0, h => exact ⟨none, 0, 0, by simpa [Value.cells] using h.symm⟩
 | 1, h => exact ⟨none, 0, 0, by simpa [Value.cells] using h.symm⟩
 | i + 2, h => simp [Value.cells] at h
theorem vEnc_sl (items : List VItem) : ∀ u ∈ items.flatMap vEnc, IsSl u := fun u hu => by
 obtain ⟨it, _, hu⟩ := List.mem_flatMap.1 hu
 simp only [vEnc, List.mem_cons, List.not_mem_nil, or_false] at hu
 rcases hu with rfl | rfl <;> exact ⟨_, _, _, rfl⟩
def StartOut (g : GraphD) (p v : Int) (A : Option Addr) (c : Nat) (A' : Option Addr) (c' : Nat) (w : World) (e : Ending) (w' : World) : Prop := ∃ (eb : Nat) (Av : Option Addr) (cv : Nat) (items : List VItem),
 e = .returned (.pointer (some ⟨eb, 0, none⟩)) ∧ Eng w' w.heap.size eb A c A' c' g p Av cv items ∧ Hid (stsOf items = startB g p v ∧ frsOf items = startB g p v) ∧ Below w.heap.size w w'
/-- The vertices of the first i. -/
def StartK (g : GraphD) (p v : Int) (i : Nat) (items : List VItem) : Prop := stsOf items = (startB g p v).take i ∧ frsOf items = (startB g p v).take i
theorem StartK.zero {g : GraphD} {p v : Int} : StartK g p v 0 [] := ⟨rfl, rfl⟩
theorem StartK.next {g : GraphD} {p v : Int} {i : Nat} {items : List VItem} {l : IvlD} {x : VSide} (h : StartK g p v i items) (hl : g.lives[i]? = some l) (hx : x.1 = startBOf p v i l) : StartK g p v (i + 1) (items ++ [(x, x)]) := by
 have e := startB_get (p := p) (v := v) hl
 have et : (startB g p v).take (i + 1) = (startB g p v).take i ++ [x.1] := by rw [List.take_add_one, e, hx]; rfl
 unfold StartK stsOf frsOf at *
 rw [et, List.map_append, List.map_append, h.1, h.2]
 exact ⟨rfl, rfl⟩
theorem AllC.far {Z : Value → Prop} {w : World} {v : Value} {k i : Nat} {u : Value} (h : AllC Z w v) (hne : some k ≠ v.ownBlock) : AllC Z (w.setCell ⟨k, i, none⟩ u) v := fun j hj cs t fr hh => by
 rw [Below.heap_setCell w ⟨k, i, none⟩ u j (fun e => hne (by rw [hj, e]))] at hh
 exact h j hj cs t fr hh
/-- One vertex more. -/
theorem Eng.more {w w' : World} {base e c c' cv cv' : Nat} {A A' Av Av' : Option Addr} {g : GraphD} {p : Int} {items : List VItem} {x : VSide} (h : Eng w base e A c A' c' g p Av cv items)
  (hb : Blk w' e 190 #[.int .i64 g.h, .slice A g.lives.length c, .slice A' g.edges.length c', .int .i64 p, .slice Av' (items.length + 1) cv']) (ho : Own vEnc 2 w' base 192 (.slice Av' (items.length + 1) cv') (items ++ [(x, x)]))
  (ha : AllC IsSl w' (.slice Av' (items.length + 1) cv')) (hx : Own pieceC 3 w' w.heap.size 113 (sV x) x.1) (hbs : base ≤ w.heap.size) (hk : ∀ b cs, Blk w b 113 cs → Blk w' b 113 cs) (hG : GraphAt w' A c A' c' g) :
  Eng w' base e A c A' c' g p Av' cv' (items ++ [(x, x)]) := by
 refine ⟨by rw [List.length_append]; exact hb, h.eb, by rw [List.length_append]; exact ho, by rw [List.length_append]; exact ha, ?_, fun it hi => ?_, hG⟩
 ·rw [List.map_append]
  exact h.st.snoc (hx.since hbs) (fun z hz => (h.st.own z hz).keep hk) fun b hb => (own_block_lt hx hb).1
 ·rcases List.mem_append.1 hi with hi | hi
  ·exact (h.fr it hi).keep hk
  ·obtain rfl : it = (x, x) := by simpa using hi
   exact hx.since hbs
set_option maxRecDepth 100000 in
set_option maxHeartbeats 8000000 in
theorem start_any (A A' : Option Addr) (c c' : Nat) (g : GraphD) (p v : Int) (w : World) (hG : GraphAt w A c A' c' g) (hV : Valid g) :
  Calls Tryz.prog 135 #[gV A c A' c' g, .int .i64 p, .int .i64 v] w (StartOut g p v A c A' c' w) := by
 obtain ⟨i0, hi, hz0, hz1, hz2⟩ := info_vertex2
 have m1 : g.lives.length ≤ 9223372036854775807 := Nat.le_trans hG.lc hG.cm
 have hnl := hV.nl
 have HG := Lib.hid hG
 obtain ⟨bl, ol, hLv⟩ := hG.lives
 have HLV := Lib.hid hLv
 clear hLv hG hV
 go_enter Tryz.func135, Tryz.ntmps135
 go_wp2_with fail
 obtain ⟨wi, hwi⟩ : ∃ wi : World, (w.alloc (Obj.cells (gC A c A' c' g) 68)).alloc (Obj.cells #[.int .i64 g.h, .slice A g.lives.length c, .slice A' g.edges.length c', .int .i64 p, .slice none 0 0] 190) = wi := ⟨_, rfl⟩
 have hbw : Below w.heap.size w wi := by rw [← hwi]; go_grown
 have hEN : Eng wi w.heap.size (w.heap.size + 1) A c A' c' g p none 0 [] := ⟨by rw [← hwi]; exact Blk.new_ (by simp), by omega, Own.nil, fun k hk => by simp [Value.ownBlock] at hk, Sides.nil, fun it h => by simp at h, HG.out.ext hbw⟩
 rw [hwi]
 obtain ⟨eb, heb⟩ : ∃ eb : Nat, w.heap.size + 1 = eb := ⟨_, rfl⟩
 have hebs : w.heap.size ≤ eb := by omega
 rw [heb] at hEN ⊢
 clear hwi heb
 go_loopw [18] (fun x wr => ∃ (i : Nat) (Av : Option Addr) (cv : Nat) (items : List VItem), x = .int .i64 i ∧ i ≤ g.lives.length ∧ items.length = i ∧ Hid (StartK g p v i items) ∧ Eng wr w.heap.size eb A c A' c' g p Av cv items ∧ Below w.heap.size w wr) (fun x _ => g.lives.length - (intOf x).toNat)
 case atStart => exact ⟨0, none, 0, [], rfl, Nat.zero_le _, rfl, Lib.hid StartK.zero, hEN, hbw⟩
 case round =>
  clear hEN hbw
  obtain ⟨i, Av, cv, items, rfl, hil, hlen, HI, hE, hb⟩ := hrel
  have hil' : items.length ≤ 12 := by omega
  have HLN := Lib.hid hlen
  clear hlen
  have hzr := hb.size
  by_cases hlt : i < g.lives.length
  case neg =>
   obtain rfl : i = g.lives.length := by omega
   have HF : Hid (stsOf items = startB g p v ∧ frsOf items = startB g p v) := Lib.hid (by
    have h1 := HI.out
    unfold StartK at h1
    rwa [List.take_of_length_le (by rw [startB_len]; omega)] at h1)
   go_wp2_with fail
   go_ret
   exact ⟨_, Av, cv, items, rfl, hE, HF, hb⟩
  case pos =>
   obtain ⟨l, hl⟩ := get_lt hlt
   obtain ⟨rfl, hbl, ⟨x0, x1⟩, hx64⟩ := HLV.out i l hl
   unfold cellIs at x0 x1
   rw [← hb.cell (by exact hbl)] at x0 x1
   have HL := Lib.hid hl; have HX64 := Lib.hid hx64
   have hbl' : bl < wr.heap.size := Nat.lt_of_lt_of_le hbl hb.size
   have hcell : wr.cell? ⟨eb, 4, none⟩ = some (.slice Av items.length cv) := hE.blk.cell 4
   have hfz : wr.frozen? ⟨eb, 4, none⟩ = false := hE.blk.frozen 4
   have hebl := hE.blk.lt
   have hO := hE.own
   have hAll := hE.all
   have HE := Lib.hid hE
   clear hl hx64
   have HCK := Lib.hid hb
   clear hE hb
   by_cases h3 : p = 3
   case pos =>
    have HM : Hid (startBOf p v i l = [⟨l.f, l.t, i⟩]) := Lib.hid (by unfold startBOf; rw [if_pos h3])
    have h3b : (p == 3) = true := by simpa using h3
    clear h3
    obtain ⟨x, hx⟩ : ∃ x : VSide, x = ([⟨l.f, l.t, i⟩], some ⟨wr.heap.size + 1, 0, none⟩, 1) := ⟨_, rfl⟩
    have hxo : Own pieceC 3 ((wr.alloc (Obj.cells #[.int .i64 l.f, .int .i64 l.t] 94)).alloc (Obj.cells #[.int .i64 l.f, .int .i64 l.t, .int .i64 i] 113)) wr.heap.size 113 (sV x) x.1 := by
     subst hx
     exact Own.lit (enc := pieceC) (w := wr.alloc (Obj.cells #[.int .i64 l.f, .int .i64 l.t] 94)) (l := [(⟨l.f, l.t, i⟩ : PieceD)]) (by simp) (by simp) rfl rfl rfl (show 1 ≤ maxLen by decide)
    have hsx : Hid (x.1 = startBOf p v i l) := Lib.hid (by rw [HM.out, hx])
    have hOw : Own vEnc 2 ((wr.alloc (Obj.cells #[.int .i64 l.f, .int .i64 l.t] 94)).alloc (Obj.cells #[.int .i64 l.f, .int .i64 l.t, .int .i64 i] 113)) w.heap.size 192 (.slice Av items.length cv) items := by first | exact (hO.alloc _).alloc _ | exact hO.alloc _
    have hbw1 : Below wr.heap.size wr ((wr.alloc (Obj.cells #[.int .i64 l.f, .int .i64 l.t] 94)).alloc (Obj.cells #[.int .i64 l.f, .int .i64 l.t, .int .i64 i] 113)) := by go_grown
    have hAw : AllC IsSl ((wr.alloc (Obj.cells #[.int .i64 l.f, .int .i64 l.t] 94)).alloc (Obj.cells #[.int .i64 l.f, .int .i64 l.t, .int .i64 i] 113)) (.slice Av items.length cv) := hAll.ext hbw1 fun k hk => (World.ownsRow.lt hO k hk).2
    have hzw := hbw1.size
    have BE := HE.out.blk.ext hbw1
    go_wp2_with (at_builtin; refine wpList_append_all (Z := IsSl) (enc := vEnc) rfl (.tmp 47) (.tmp 51) 188 rfl w.heap.size 192 i0 _ 2 48 Tryz.underlying188 hi hz0 hz1 hz2 rfl (by decide) _ items (x, x) rfl hOw #[.slice (some ⟨wr.heap.size + 1, 0, none⟩) 1 1, .slice (some ⟨wr.heap.size + 1, 0, none⟩) 1 1] (by rw [hx]; rfl) _ (by simp) rfl rfl (by simp [Value.oneCell']) (by omega) (by decide) (by omega) hAw vertex_zero (by intro u hu; simp at hu; exact ⟨_, _, _, hu⟩) (vEnc_sl items) ?_; intro v6 w6 hown6 hbb6 hoth6 hall6; obtain ⟨its, hits⟩ : ∃ its, items ++ [(x, x)] = its := ⟨_, rfl⟩; rw [hits] at hown6; have HIT := Lib.hid hits; clear hits; obtain ⟨A6, c6, rfl⟩ := hown6.form; have BE6 := hoth6 _ _ _ BE (by decide); have hcell6 := BE6.cell 4; have hfz6 := BE6.frozen 4; have hebl6 := BE6.lt)
    go_roundw
    case rel =>
     have hits := HIT.out
     subst hits
     have hne6 := hown6.other BE6 (by decide)
     have hown7 := hown6.keep (keep_store BE6 (by decide) 4 (.slice A6 (items ++ [(x, x)]).length c6))
     have hall7 : AllC IsSl (w6.setCell ⟨eb, 4, none⟩ (.slice A6 (items ++ [(x, x)]).length c6)) (.slice A6 (items ++ [(x, x)]).length c6) := hall6.far hne6
     have BE7 := BE6.set_ 4 (.slice A6 (items ++ [(x, x)]).length c6)
     have hxo6 : Own pieceC 3 (w6.setCell ⟨eb, 4, none⟩ (.slice A6 (items ++ [(x, x)]).length c6)) wr.heap.size 113 (sV x) x.1 := (hxo.keep fun b cs hB => hoth6 b _ cs hB (by decide)).keep (keep_store BE6 (by decide) 4 _)
     have hb7 : Below w.heap.size w (w6.setCell ⟨eb, 4, none⟩ (.slice A6 (items ++ [(x, x)]).length c6)) := ((HCK.out.trans (hbw1.mono hzr)).trans hbb6).setCell hebs _
     rw [List.length_append] at BE7 hown7 hall7 hxo6 hb7
     have hE7 := HE.out.more (x := x) BE7 hown7 hall7 hxo6 hzr (fun b cs hB => (hoth6 b _ cs (hB.ext hbw1) (by decide)).far (blk_ne (hoth6 b _ cs (hB.ext hbw1) (by decide)) BE6 (by decide)) _) (HG.out.ext hb7)
     rw [List.length_append]
     exact ⟨i + 1, A6, c6, items ++ [(x, x)], by go_num, by omega, by simp [HLN.out], Lib.hid (HI.out.next HL.out hsx.out), hE7, hb7⟩
    case measure => simp [intOf]; omega
   case neg =>
    have h3b : (p == 3) = false := by simpa using h3
    have H3 := Lib.hid h3
    clear h3
    by_cases h4 : (i : Int) = v
    case pos =>
     have HM : Hid (startBOf p v i l = [⟨l.f, l.t, 0⟩]) := Lib.hid (by unfold startBOf; rw [if_neg H3.out, if_pos h4])
     have h4b : ((i : Int) == v) = true := by simpa using h4
     clear h4
     obtain ⟨x, hx⟩ : ∃ x : VSide, x = ([⟨l.f, l.t, 0⟩], some ⟨wr.heap.size + 1, 0, none⟩, 1) := ⟨_, rfl⟩
     have hxo : Own pieceC 3 ((wr.alloc (Obj.cells #[.int .i64 l.f, .int .i64 l.t] 94)).alloc (Obj.cells #[.int .i64 l.f, .int .i64 l.t, .int .i64 0] 113)) wr.heap.size 113 (sV x) x.1 := by
      subst hx
      exact Own.lit (enc := pieceC) (w := wr.alloc (Obj.cells #[.int .i64 l.f, .int .i64 l.t] 94)) (l := [(⟨l.f, l.t, 0⟩ : PieceD)]) (by simp) (by simp) rfl rfl rfl (show 1 ≤ maxLen by decide)
     have hsx : Hid (x.1 = startBOf p v i l) := Lib.hid (by rw [HM.out, hx])
     have hOw : Own vEnc 2 ((wr.alloc (Obj.cells #[.int .i64 l.f, .int .i64 l.t] 94)).alloc (Obj.cells #[.int .i64 l.f, .int .i64 l.t, .int .i64 0] 113)) w.heap.size 192 (.slice Av items.length cv) items := by first | exact (hO.alloc _).alloc _ | exact hO.alloc _
     have hbw1 : Below wr.heap.size wr ((wr.alloc (Obj.cells #[.int .i64 l.f, .int .i64 l.t] 94)).alloc (Obj.cells #[.int .i64 l.f, .int .i64 l.t, .int .i64 0] 113)) := by go_grown
     have hAw : AllC IsSl ((wr.alloc (Obj.cells #[.int .i64 l.f, .int .i64 l.t] 94)).alloc (Obj.cells #[.int .i64 l.f, .int .i64 l.t, .int .i64 0] 113)) (.slice Av items.length cv) := hAll.ext hbw1 fun k hk => (World.ownsRow.lt hO k hk).2
     have hzw := hbw1.size
     have BE := HE.out.blk.ext hbw1
     go_wp2_with (at_builtin; refine wpList_append_all (Z := IsSl) (enc := vEnc) rfl (.tmp 47) (.tmp 51) 188 rfl w.heap.size 192 i0 _ 2 48 Tryz.underlying188 hi hz0 hz1 hz2 rfl (by decide) _ items (x, x) rfl hOw #[.slice (some ⟨wr.heap.size + 1, 0, none⟩) 1 1, .slice (some ⟨wr.heap.size + 1, 0, none⟩) 1 1] (by rw [hx]; rfl) _ (by simp) rfl rfl (by simp [Value.oneCell']) (by omega) (by decide) (by omega) hAw vertex_zero (by intro u hu; simp at hu; exact ⟨_, _, _, hu⟩) (vEnc_sl items) ?_; intro v6 w6 hown6 hbb6 hoth6 hall6; obtain ⟨its, hits⟩ : ∃ its, items ++ [(x, x)] = its := ⟨_, rfl⟩; rw [hits] at hown6; have HIT := Lib.hid hits; clear hits; obtain ⟨A6, c6, rfl⟩ := hown6.form; have BE6 := hoth6 _ _ _ BE (by decide); have hcell6 := BE6.cell 4; have hfz6 := BE6.frozen 4; have hebl6 := BE6.lt)
     go_roundw
     case rel =>
      have hits := HIT.out
      subst hits
      have hne6 := hown6.other BE6 (by decide)
      have hown7 := hown6.keep (keep_store BE6 (by decide) 4 (.slice A6 (items ++ [(x, x)]).length c6))
      have hall7 : AllC IsSl (w6.setCell ⟨eb, 4, none⟩ (.slice A6 (items ++ [(x, x)]).length c6)) (.slice A6 (items ++ [(x, x)]).length c6) := hall6.far hne6
      have BE7 := BE6.set_ 4 (.slice A6 (items ++ [(x, x)]).length c6)
      have hxo6 : Own pieceC 3 (w6.setCell ⟨eb, 4, none⟩ (.slice A6 (items ++ [(x, x)]).length c6)) wr.heap.size 113 (sV x) x.1 := (hxo.keep fun b cs hB => hoth6 b _ cs hB (by decide)).keep (keep_store BE6 (by decide) 4 _)
      have hb7 : Below w.heap.size w (w6.setCell ⟨eb, 4, none⟩ (.slice A6 (items ++ [(x, x)]).length c6)) := ((HCK.out.trans (hbw1.mono hzr)).trans hbb6).setCell hebs _
      rw [List.length_append] at BE7 hown7 hall7 hxo6 hb7
      have hE7 := HE.out.more (x := x) BE7 hown7 hall7 hxo6 hzr (fun b cs hB => (hoth6 b _ cs (hB.ext hbw1) (by decide)).far (blk_ne (hoth6 b _ cs (hB.ext hbw1) (by decide)) BE6 (by decide)) _) (HG.out.ext hb7)
      rw [List.length_append]
      exact ⟨i + 1, A6, c6, items ++ [(x, x)], by go_num, by omega, by simp [HLN.out], Lib.hid (HI.out.next HL.out hsx.out), hE7, hb7⟩
     case measure => simp [intOf]; omega
    case neg =>
     have HM : Hid (startBOf p v i l = []) := Lib.hid (by unfold startBOf; rw [if_neg H3.out, if_neg h4])
     have h4b : ((i : Int) == v) = false := by simpa using h4
     clear h4
     obtain ⟨x, hx⟩ : ∃ x : VSide, x = ([], none, 0) := ⟨_, rfl⟩
     have hxo : Own pieceC 3 (wr.alloc (Obj.cells #[.int .i64 l.f, .int .i64 l.t] 94)) wr.heap.size 113 (sV x) x.1 := by
      subst hx
      exact Own.nil
     have hsx : Hid (x.1 = startBOf p v i l) := Lib.hid (by rw [HM.out, hx])
     have hOw : Own vEnc 2 (wr.alloc (Obj.cells #[.int .i64 l.f, .int .i64 l.t] 94)) w.heap.size 192 (.slice Av items.length cv) items := by first | exact (hO.alloc _).alloc _ | exact hO.alloc _
     have hbw1 : Below wr.heap.size wr (wr.alloc (Obj.cells #[.int .i64 l.f, .int .i64 l.t] 94)) := by go_grown
     have hAw : AllC IsSl (wr.alloc (Obj.cells #[.int .i64 l.f, .int .i64 l.t] 94)) (.slice Av items.length cv) := hAll.ext hbw1 fun k hk => (World.ownsRow.lt hO k hk).2
     have hzw := hbw1.size
     have BE := HE.out.blk.ext hbw1
     go_wp2_with (at_builtin; refine wpList_append_all (Z := IsSl) (enc := vEnc) rfl (.tmp 47) (.tmp 51) 188 rfl w.heap.size 192 i0 _ 2 48 Tryz.underlying188 hi hz0 hz1 hz2 rfl (by decide) _ items (x, x) rfl hOw #[.slice none 0 0, .slice none 0 0] (by rw [hx]; rfl) _ (by simp) rfl rfl (by simp [Value.oneCell']) (by omega) (by decide) (by omega) hAw vertex_zero (by intro u hu; simp at hu; exact ⟨_, _, _, hu⟩) (vEnc_sl items) ?_; intro v6 w6 hown6 hbb6 hoth6 hall6; obtain ⟨its, hits⟩ : ∃ its, items ++ [(x, x)] = its := ⟨_, rfl⟩; rw [hits] at hown6; have HIT := Lib.hid hits; clear hits; obtain ⟨A6, c6, rfl⟩ := hown6.form; have BE6 := hoth6 _ _ _ BE (by decide); have hcell6 := BE6.cell 4; have hfz6 := BE6.frozen 4; have hebl6 := BE6.lt)
     go_roundw
     case rel =>
      have hits := HIT.out
      subst hits
      have hne6 := hown6.other BE6 (by decide)
      have hown7 := hown6.keep (keep_store BE6 (by decide) 4 (.slice A6 (items ++ [(x, x)]).length c6))
      have hall7 : AllC IsSl (w6.setCell ⟨eb, 4, none⟩ (.slice A6 (items ++ [(x, x)]).length c6)) (.slice A6 (items ++ [(x, x)]).length c6) := hall6.far hne6
      have BE7 := BE6.set_ 4 (.slice A6 (items ++ [(x, x)]).length c6)
      have hxo6 : Own pieceC 3 (w6.setCell ⟨eb, 4, none⟩ (.slice A6 (items ++ [(x, x)]).length c6)) wr.heap.size 113 (sV x) x.1 := (hxo.keep fun b cs hB => hoth6 b _ cs hB (by decide)).keep (keep_store BE6 (by decide) 4 _)
      have hb7 : Below w.heap.size w (w6.setCell ⟨eb, 4, none⟩ (.slice A6 (items ++ [(x, x)]).length c6)) := ((HCK.out.trans (hbw1.mono hzr)).trans hbb6).setCell hebs _
      rw [List.length_append] at BE7 hown7 hall7 hxo6 hb7
      have hE7 := HE.out.more (x := x) BE7 hown7 hall7 hxo6 hzr (fun b cs hB => (hoth6 b _ cs (hB.ext hbw1) (by decide)).far (blk_ne (hoth6 b _ cs (hB.ext hbw1) (by decide)) BE6 (by decide)) _) (HG.out.ext hb7)
      rw [List.length_append]
      exact ⟨i + 1, A6, c6, items ++ [(x, x)], by go_num, by omega, by simp [HLN.out], Lib.hid (HI.out.next HL.out hsx.out), hE7, hb7⟩
     case measure => simp [intOf]; omega
end Go.Proofs.YtjcimdpldlamfaaGreatDoor
