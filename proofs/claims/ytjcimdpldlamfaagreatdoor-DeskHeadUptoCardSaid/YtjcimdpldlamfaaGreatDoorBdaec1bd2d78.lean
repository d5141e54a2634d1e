/- One text: DeskAll. -/
import Derived.Test.YtjcimdpldlamfaaGreatDoorBd1aa46607c4
import Derived.Test.YtjcimdpldlamfaaGreatDoorBdc7448a5532
/- The walk of desk.all (printed by gendesk3.py). -/
namespace Go.Proofs.YtjcimdpldlamfaaGreatDoor
open Go.RowKit

set_option maxRecDepth 100000 in
set_option maxHeartbeats 8000000 in
theorem all_then (A A' An : Option Addr) (c c' cn : Nat) (g : GraphD) (n : List Int) (w : World) (hG : GraphAt w A c A' c' g) (hV : Valid g) (hN : IntsAt w An cn n) (hn : n.length = 2) (ht : ITab w) :
  Calls Tryz.prog 60 #[gV A c A' c' g, .slice An n.length cn] w fun e w' => e = .returned (.string (bs (ansAll g n))) ∧ (ansAll g n).length ≤ 100000 ∧ Below w.heap.size w w' := by
 obtain ⟨i0, hi, hz0, hz1, hz2⟩ := info_str2
 obtain ⟨x, y, rfl⟩ := two_of hn
 obtain ⟨b, o, rfl, hb0, x0, x1⟩ := hN.two
 have HG := Lib.hid hG; have HT := Lib.hid ht; have HV := Lib.hid hV
 clear hG ht hV hN hn
 go_enter Tryz.func60, Tryz.ntmps60
 go_wp2_with fail
 have BG := Blk.new w 68 (gC A c A' c' g)
 have hwq := ext_alloc (Below.refl w.heap.size w) (Obj.cells (gC A c A' c' g) 68)
 change Code.wp _ _ _ _ (w.alloc (Obj.cells (gC A c A' c' g) 68))
 obtain ⟨wq, hq⟩ : ∃ wq, w.alloc (Obj.cells (gC A c A' c' g) 68) = wq := ⟨_, rfl⟩
 rw [hq] at BG hwq ⊢
 obtain ⟨S1, hSS⟩ : ∃ S1 : World → Prop, Hid (S1 = fun w' => w'.cell? ⟨w.heap.size, 0, none⟩ = some (.int .i64 g.h) ∧ w'.cell? ⟨w.heap.size, 1, none⟩ = some (.slice A g.lives.length c) ∧ w'.cell? ⟨w.heap.size, 2, none⟩ = some (.slice A' g.edges.length c') ∧ w'.cell? ⟨b, o, none⟩ = some (.int .i64 x) ∧ w'.cell? ⟨b, o + 1, none⟩ = some (.int .i64 y)) := ⟨_, Lib.hid rfl⟩
 have HX : Hid (w.cell? ⟨b, o, none⟩ = some (.int .i64 x) ∧ w.cell? ⟨b, o + 1, none⟩ = some (.int .i64 y)) := Lib.hid ⟨x0, x1⟩
 have HKS : Hid (∀ w', Below wq.heap.size wq w' → S1 w') := Lib.hid fun w' h => by
  have hB := BG.ext h
  have hw := ext_trans hwq h
  rw [hSS.out]
  exact ⟨hB.cell 0, hB.cell 1, hB.cell 2, (hw.cell (p := ⟨b, o, none⟩) hb0).trans HX.out.1, (hw.cell (p := ⟨b, o + 1, none⟩) hb0).trans HX.out.2⟩
 have HWQ := Lib.hid hwq
 have hd0 := below_drew (Below.refl wq.heap.size wq)
 have hS0 : S1 wq.drew := HKS.out _ hd0
 clear x0 x1 BG hwq hq
 refine anyH_begin S1 (by kernel_rfl) ?_
 refine tH 0 ?_ ?_ <| tH 1 ?_ ?_ <| tH 2 ?_ ?_ <| tH 3 ?_ ?_ <| tH 4 ?_ ?_ <| tH 5 ?_ ?_ <| tH 6 ?_ ?_ ?_
 iterate 7
  rotate_left
  ·intro w hSw; rw [hSS.out] at hSw; obtain ⟨sw0, sw1, sw2, sw3, sw4⟩ := hSw; (try simp only [pS]); go_simp; try with_reducible rfl
 try simp only [pS]
 refine anyH_one (i := 7) rfl (by kernel_rfl) fun K hK => ?_
 go_wp2_with fail
 refine (bspRun_any A A' c c' g x y _ (HG.out.ext (ext_trans HWQ.out hd0))).mono ?_
 rintro e w3 (⟨h0, rfl, hb3⟩ | ⟨h0, Ao, co, k, sides, rfl, hO, hS, HR, hb3⟩)
 ·have hb3 : Below wq.heap.size wq w3 := ext_trans hd0 hb3
  have hS3 := HKS.out _ hb3
  refine hK.out _ _ ⟨hS3, ?_⟩
  clear hK K hS0
  try simp only [pS]
  refine tH 8 ?_ ?_ <| tH 9 ?_ ?_ <| tH 10 ?_ ?_ <| tH 11 ?_ ?_ <| tH 12 ?_ ?_ <| tH 13 ?_ ?_ <| tH 14 ?_ ?_ ?_
  iterate 7
   rotate_left
   ·intro w hSw; rw [hSS.out] at hSw; obtain ⟨sw0, sw1, sw2, sw3, sw4⟩ := hSw; (try simp only [pS]); go_simp; try with_reducible rfl
  try simp only [pS]
  refine wpAnyH_done (by kernel_rfl) ?_ _
  try simp only [pS]
  clear hS3
  have hbw3 := ext_trans HWQ.out hb3
  have hne : (runErr g x y != 0) = true := by simp [h0]
  have HRR : Hid (ansAll g [x, y] = errT (runErr g x y)) := Lib.hid (by show (if runErr g x y = 0 then _ else errT (runErr g x y)) = _; rw [if_neg h0])
  have HE : Hid (I64 (runErr g x y)) := Lib.hid (by have := runErr_range g x y; exact small_i64 (by omega) (by omega))
  obtain ⟨er, hr⟩ : ∃ er, runErr g x y = er := ⟨_, rfl⟩
  rw [hr] at hne HRR HE ⊢
  have hf := failed_any er HE.out w3 (HT.out.ext hbw3)
  clear h0 hr
  go_wp2_with fail
  refine hf.mono ?_
  rintro e w4 ⟨rfl, hb4⟩
  clear hf
  go_wp2_with fail
  go_ret
  exact ⟨by rw [HRR.out]; rfl, by rw [HRR.out]; exact err_short HE.out, ext_trans hbw3 hb4⟩
 ·have hb3 : Below wq.heap.size wq w3 := ext_trans hd0 hb3
  have hS3 := HKS.out _ hb3
  refine hK.out _ _ ⟨hS3, ?_⟩
  clear hK K hS0
  try simp only [pS]
  refine tH 8 ?_ ?_ <| tH 9 ?_ ?_ <| tH 10 ?_ ?_ <| tH 11 ?_ ?_ <| tH 12 ?_ ?_ <| tH 13 ?_ ?_ <| tH 14 ?_ ?_ ?_
  iterate 7
   rotate_left
   ·intro w hSw; rw [hSS.out] at hSw; obtain ⟨sw0, sw1, sw2, sw3, sw4⟩ := hSw; (try simp only [pS]); go_simp; try with_reducible rfl
  try simp only [pS]
  refine wpAnyH_done (by kernel_rfl) ?_ _
  try simp only [pS]
  clear hS3
  have hbw3 := ext_trans HWQ.out hb3
  have hsn : sides.length = g.lives.length := by
   have h1 := HR.out.len
   rwa [List.length_map] at h1
  have hnl := HV.out.nl
  have hs12 : sides.length ≤ 12 := by omega
  have HO := Lib.hid (own_sides hO)
  have HAT := Lib.hid (hS.at_ (h := g.h) HR.out.lies HV.out.h1)
  have HRR : Hid (ansAll g [x, y] = if sides.map Prod.fst = [] then wNone else joinB 32 ((sides.map Prod.fst).map piecesT)) := Lib.hid (by
   show (if runErr g x y = 0 then (if runF g x y = [] then wNone else joinB 32 ((runF g x y).map piecesT)) else _) = _
   rw [if_pos h0, run_the HR.out])
  have HPL : Hid (∀ m, m ∈ sides.map Prod.fst → (piecesT m).length ≤ 6601) := Lib.hid fun m hm => by
   have hl := HR.out.lies m hm
   have h1 := hl.len (by have := HV.out.h0; omega)
   have h2 := HV.out.h1
   have h3 := piecesT_len (m := m) fun q hq => by
    have h4 := hl.in_ q hq
    have h5 := hl.map.2 q hq
    exact ⟨small_i64 (by omega) (by omega), small_i64 (by omega) (by omega), small_i64 (by omega) (by omega)⟩
   omega
  clear hO hS hsn hnl h0
  have HBW3 := Lib.hid hbw3
  go_wp2_with fail
  go_loopw [8, 29] (fun u z wt => ∃ i : Nat, z = .int .i64 i ∧ i ≤ sides.length ∧ Own strEnc 1 wt w3.heap.size 9 u (((sides.map Prod.fst).map piecesT).take i) ∧ Below w3.heap.size w3 wt) (fun _ z _ => sides.length - (intOf z).toNat)
  case atStart => exact ⟨0, rfl, Nat.zero_le _, Own.nil, Below.refl _ _⟩
  case round =>
   obtain ⟨i, rfl, hil, hO9, hb9⟩ := hrel
   have hz9 := hb9.size
   obtain ⟨out, ho⟩ : ∃ out, ((sides.map Prod.fst).map piecesT).take i = out := ⟨_, rfl⟩
   have hcl : out.length + 1 ≤ 1000000 := by rw [← ho, List.length_take, List.length_map, List.length_map]; omega
   rw [ho] at hO9
   have hbw9 := ext_trans HBW3.out hb9
   by_cases hlt : i < sides.length
   case neg =>
    obtain rfl : i = sides.length := by omega
    rw [List.take_of_length_le (by rw [List.length_map, List.length_map]; omega)] at ho
    obtain ⟨Aw, cw, rfl, hSt⟩ := own_strs hO9
    have hol : out.length = sides.length := by rw [← ho, List.length_map, List.length_map]
    cases hsd : sides with
    | nil =>
     subst hsd
     obtain rfl : out = [] := by rw [← ho]; rfl
     clear hO9 ho hol hSt
     go_wp2_with fail
     go_ret
     exact ⟨by rw [HRR.out]; rfl, by rw [HRR.out]; decide, hbw9⟩
    | cons s0 sr =>
     have hpos : 0 < sides.length := by rw [hsd]; simp
     have hne : (((out.length : Nat) : Int) == 0) = false := by rw [hol]; exact beq_eq_false_iff_ne.2 (by omega)
     have HJL : Hid ((joinB 32 out).length ≤ 100000) := Lib.hid (by
      have h1 := joinB_len (c := 32) (m := 6601) (l := out) fun q hq => by
       rw [← ho] at hq
       obtain ⟨m, hm, rfl⟩ := List.mem_map.1 hq
       exact HPL.out m hm
      omega)
     have hj := join_any Aw cw out 32 wr hSt (by have := HJL.out; omega)
     have HRQ : Hid (ansAll g [x, y] = joinB 32 out) := Lib.hid (by rw [HRR.out, if_neg (by rw [hsd]; simp), ho])
     clear hO9 ho hol hSt hsd hpos
     go_wp2_with fail
     refine hj.mono ?_
     rintro e w5 ⟨rfl, hb5⟩
     clear hj
     go_wp2_with fail
     go_ret
     exact ⟨by rw [HRQ.out]; rfl, by rw [HRQ.out]; exact HJL.out, ext_trans hbw9 hb5⟩
   case pos =>
    obtain ⟨z, hz⟩ := get_lt hlt
    have hm9 : (sides.map Prod.fst)[i]? = some z.1 := by rw [List.getElem?_map, hz]; rfl
    obtain ⟨bz, oz, rfl, lz, cz⟩ := HO.out.side hz hb9
    have pz := (HAT.out.ext hb9) z (List.mem_of_getElem? hz)
    have hlz : z.1.length ≤ 100000 := by
     have h1 := (HR.out.lies z.1 (List.mem_of_getElem? hm9)).len (by have := HV.out.h0; omega)
     have h2 := HV.out.h1
     omega
    have hpc := pieces_any z.2.1 z.2.2 z.1 wr pz hlz (HT.out.ext hbw9)
    have HN : Hid (out ++ [piecesT z.1] = ((sides.map Prod.fst).map piecesT).take (i + 1)) := Lib.hid (by rw [← ho, List.take_add_one, List.getElem?_map, hm9]; rfl)
    obtain ⟨tz, htz⟩ : ∃ tz, piecesT z.1 = tz := ⟨_, rfl⟩
    rw [htz] at hpc HN
    clear hz hm9 pz hlz ho htz
    go_wp2_with fail
    refine hpc.mono ?_
    rintro e w5 ⟨rfl, hb5⟩
    have hO5 := hO9.ext hb5
    have hb95 := ext_trans hb9 hb5
    have hw5 : w3.heap.size ≤ w5.heap.size := hb95.size
    clear hpc hO9 hb5 cz
    go_wp2_with (at_builtin; refine wpList_append_lie (enc := strEnc) rfl (.tmp 33) (.tmp 36) 23 rfl w3.heap.size 9 i0 _ 1 16 Tryz.underlying23 hi hz0 hz1 hz2 rfl (by decide) _ out tz rfl hO5 _ rfl w5.heap.size rfl rfl rfl str_one hcl (by decide) hw5 ?_; intro gn cap w6 hown6 hbb hkp hgn)
    go_roundw
    case rel => exact ⟨i + 1, by go_num, by omega, by rw [← HN.out]; exact hown6, hb95.trans hbb⟩
    case measure => simp [intOf]; omega
end Go.Proofs.YtjcimdpldlamfaaGreatDoor
