/- Several texts in one: DeskWays, DeskPieces, BspRuns. -/
import Derived.Test.YtjcimdpldlamfaaGreatDoorBd1aa46607c4
import Derived.Test.YtjcimdpldlamfaaGreatDoorBde9be1d2845
import Derived.Test.YtjcimdpldlamfaaGreatDoorBd5dcf06900f
import Derived.Test.YtjcimdpldlamfaaGreatDoorBdeff2250ea6
import Derived.Test.YtjcimdpldlamfaaGreatDoorBd6f7411337b
import Derived.Test.YtjcimdpldlamfaaGreatDoorBd069242f7b3
/- The walks of the desk's closures about snapshots (printed by gendesk2.py). -/
namespace Go.Proofs.YtjcimdpldlamfaaGreatDoor
open Go.RowKit

theorem shot_i64 (s : SnapD) : I64 (shotErr s) := by
 unfold shotErr
 repeat (first | split | exact small_i64 (by decide) (by decide))
set_option maxRecDepth 100000 in
set_option maxHeartbeats 4000000 in
theorem hops_in (As Bs An : Option Addr) (cs ds cn gn : Nat) (s : SnapD) (n : List Int) (w : World) (hS : SnapAt w As cs Bs ds s) (hN : IntsAt w An cn n) (hn : n.length = 2) (hg : gn < w.heap.size ∧ w.cell? ⟨gn, 0, none⟩ = some (.slice An n.length cn)) :
  Calls Tryz.prog 53 #[snapV As cs Bs ds s, .pointer (some ⟨gn, 0, none⟩)] w (IntsOut (WaysOut s wOne (arg n 1)) (waysErr s (arg n 1)) w) := by
 obtain ⟨x, y, rfl⟩ := two_of hn
 obtain ⟨b, o, rfl, hb0, x0, x1⟩ := hN.two
 have HSN := Lib.hid hS
 have HX : Hid (w.cell? ⟨b, o + 1, none⟩ = some (.int .i64 y) ∧ w.cell? ⟨gn, 0, none⟩ = some (.slice (some ⟨b, o, none⟩) 2 cn)) := Lib.hid ⟨x1, hg.2⟩
 have hgl := hg.1
 clear hS hN hn hg x0 x1
 go_enter Tryz.func53, Tryz.ntmps53
 go_wp2_with fail
 have BG := Blk.new w 86 #[.slice As s.alive.length cs, .slice Bs s.arcs.length ds]
 have hwq := ext_alloc (Below.refl w.heap.size w) (Obj.cells #[.slice As s.alive.length cs, .slice Bs s.arcs.length ds] 86)
 change Code.wp _ _ _ _ (w.alloc (Obj.cells #[.slice As s.alive.length cs, .slice Bs s.arcs.length ds] 86))
 obtain ⟨wq, hq⟩ : ∃ wq, w.alloc (Obj.cells #[.slice As s.alive.length cs, .slice Bs s.arcs.length ds] 86) = wq := ⟨_, rfl⟩
 rw [hq] at BG hwq ⊢
 obtain ⟨S1, hSS⟩ : ∃ S1 : World → Prop, Hid (S1 = fun w' => w'.cell? ⟨w.heap.size, 0, none⟩ = some (.slice As s.alive.length cs) ∧ w'.cell? ⟨w.heap.size, 1, none⟩ = some (.slice Bs s.arcs.length ds) ∧ w'.cell? ⟨b, o + 1, none⟩ = some (.int .i64 y) ∧ w'.cell? ⟨gn, 0, none⟩ = some (.slice (some ⟨b, o, none⟩) 2 cn)) := ⟨_, Lib.hid rfl⟩
 have HKS : Hid (∀ w', Below wq.heap.size wq w' → S1 w') := Lib.hid fun w' h => by
  have hB := BG.ext h
  have hw := ext_trans hwq h
  rw [hSS.out]
  exact ⟨hB.cell 0, hB.cell 1, (hw.cell (p := ⟨b, o + 1, none⟩) hb0).trans HX.out.1, (hw.cell (p := ⟨gn, 0, none⟩) hgl).trans HX.out.2⟩
 have HWQ := Lib.hid hwq
 have hd0 := below_drew (Below.refl wq.heap.size wq)
 have hS0 : S1 wq.drew := HKS.out _ hd0
 clear BG hwq hq
 refine anyH_begin S1 (by kernel_rfl) ?_
 refine tH 0 ?_ ?_ <| tH 1 ?_ ?_ <| tH 2 ?_ ?_ <| tH 3 ?_ ?_ ?_
 iterate 4
  rotate_left
  ·intro w hSw; rw [hSS.out] at hSw; obtain ⟨sw0, sw1, sw2, sw3⟩ := hSw; (try simp only [pS]); go_simp; try with_reducible rfl
 try simp only [pS]
 refine anyH_one (i := 4) rfl (by kernel_rfl) fun K hK => ?_
 go_wp2_with fail
 refine (hops_any As Bs cs ds s y _ (HSN.out.ext (ext_trans HWQ.out hd0))).mono ?_
 rintro e w3 ⟨l, Al, cl, hl, rfl, hS, hml, hb3⟩
 have hb3 : Below wq.heap.size wq w3 := ext_trans hd0 hb3
 have hS3 := HKS.out _ hb3
 have HL := Lib.hid hl
 refine hK.out _ _ ⟨hS3, ?_⟩
 clear hK K hS0 hl
 try simp only [pS]
 refine tH 5 ?_ ?_ <| tH 6 ?_ ?_ <| tH 7 ?_ ?_ <| tH 8 ?_ ?_ ?_
 iterate 4
  rotate_left
  ·intro w hSw; rw [hSS.out] at hSw; obtain ⟨sw0, sw1, sw2, sw3⟩ := hSw; (try simp only [pS]); go_simp; try with_reducible rfl
 try simp only [pS]
 refine wpAnyH_done (by kernel_rfl) ?_ _
 try simp only [pS]
 clear hS3
 go_wp2_with fail
 go_ret2
 exact ⟨l, Al, cl, HL.out, rfl, hS, hml, ext_trans HWQ.out hb3⟩
theorem entersD_hops : Enters Tryz.prog 53 := enters_of Tryz.func53 (by kernel_rfl) rfl
set_option maxRecDepth 100000 in
set_option maxHeartbeats 4000000 in
theorem hops_then (A A' An : Option Addr) (c c' cn : Nat) (g : GraphD) (n : List Int) (w : World) (hG : GraphAt w A c A' c' g) (hV : Valid g) (hN : IntsAt w An cn n) (hn : n.length = 2) (ht : ITab w) :
  Calls Tryz.prog 51 #[gV A c A' c' g, .slice An n.length cn] w fun e w' => e = .returned (.string (bs (ansHops g n))) ∧ (ansHops g n).length ≤ 100000 ∧ Below w.heap.size w w' := by
 have hmf : ∀ (fn : Fn) (first cap : Array Value) (w : World), (Instr.makeFunc fn first cap).run Tryz.prog w = .ok (.func fn first cap) w := fun _ _ _ _ => rfl
 have HN := Lib.hid hN
 obtain ⟨x, y, rfl⟩ := two_of hn
 obtain ⟨b, o, rfl, hb0, x0, x1⟩ := hN.two
 have HG := Lib.hid hG; have HT := Lib.hid ht; have HV := Lib.hid hV
 have HX := Lib.hid x0
 clear hG ht hV hN hn x0 x1
 go_enter Tryz.func51, Tryz.ntmps51
 go_wp2_with fail
 have BG := (Blk.new w 68 (gC A c A' c' g)).alloc (Obj.cells #[.slice (some ⟨b, o, none⟩) 2 cn] 55)
 have BN := Blk.new (w.alloc (Obj.cells (gC A c A' c' g) 68)) 55 #[.slice (some ⟨b, o, none⟩) 2 cn]
 rw [show (w.alloc (Obj.cells (gC A c A' c' g) 68)).heap.size = w.heap.size + 1 by simp] at BN
 have hwq := ext_alloc (ext_alloc (Below.refl w.heap.size w) (Obj.cells (gC A c A' c' g) 68)) (Obj.cells #[.slice (some ⟨b, o, none⟩) 2 cn] 55)
 change Code.wp _ _ _ _ ((w.alloc (Obj.cells (gC A c A' c' g) 68)).alloc (Obj.cells #[.slice (some ⟨b, o, none⟩) 2 cn] 55))
 obtain ⟨wq, hq⟩ : ∃ wq, (w.alloc (Obj.cells (gC A c A' c' g) 68)).alloc (Obj.cells #[.slice (some ⟨b, o, none⟩) 2 cn] 55) = wq := ⟨_, rfl⟩
 rw [hq] at BG BN hwq ⊢
 obtain ⟨S1, hSS⟩ : ∃ S1 : World → Prop, Hid (S1 = fun w' => w'.cell? ⟨w.heap.size, 0, none⟩ = some (.int .i64 g.h) ∧ w'.cell? ⟨w.heap.size, 1, none⟩ = some (.slice A g.lives.length c) ∧ w'.cell? ⟨w.heap.size, 2, none⟩ = some (.slice A' g.edges.length c') ∧ w'.cell? ⟨b, o, none⟩ = some (.int .i64 x) ∧ w'.cell? ⟨w.heap.size + 1, 0, none⟩ = some (.slice (some ⟨b, o, none⟩) 2 cn)) := ⟨_, Lib.hid rfl⟩
 have HKS : Hid (∀ w', Below wq.heap.size wq w' → S1 w') := Lib.hid fun w' h => by
  have hB := BG.ext h
  have hB2 := BN.ext h
  have hw := ext_trans hwq h
  rw [hSS.out]
  exact ⟨hB.cell 0, hB.cell 1, hB.cell 2, (hw.cell (p := ⟨b, o, none⟩) hb0).trans HX.out, hB2.cell 0⟩
 have HWQ := Lib.hid hwq
 have HBN := Lib.hid BN
 have hd0 := below_drew (Below.refl wq.heap.size wq)
 have hS0 : S1 wq.drew := HKS.out _ hd0
 have hsn : Calls Tryz.prog 52 #[gV A c A' c' g, .int .i64 x, .func (.func 53) #[] #[.pointer (some ⟨w.heap.size + 1, 0, none⟩)]] wq.drew fun e w' => e = .returned (.string (bs (ansHops g [x, y]))) ∧ (ansHops g [x, y]).length ≤ 100000 ∧ Below wq.drew.heap.size wq.drew w' := by
  refine (snapped_any 53 #[.pointer (some ⟨w.heap.size + 1, 0, none⟩)] (fun s => (the (WaysOut s wOne y), waysErr s y)) A A' c c' g x wq.drew (HG.out.ext (ext_trans hwq hd0)) (HT.out.ext (ext_trans hwq hd0)) entersD_hops ?_)
  intro W As cs Bs ds hW hSA
  have hB := HBN.out.ext (ext_trans hd0 hW)
  refine (hops_in As Bs (some ⟨b, o, none⟩) cs ds cn (w.heap.size + 1) (atD g x) [x, y] W hSA (HN.out.ext (ext_trans hwq (ext_trans hd0 hW))) rfl ⟨hB.lt, hB.cell 0⟩).mono ?_
  rintro e w' ⟨l, Al, cl, hl, rfl, hS, hml, hb⟩
  refine ⟨l, Al, cl, ⟨(ways_the hl).symm, ?_, ?_⟩, rfl, hS, hml, hb⟩
  ·have h1 := ways_len hl
   have h2 := atD_len g x HV.out
   omega
  ·by_cases h9 : shotErr (atD g x) = 0
   ·by_cases h8 : 0 ≤ y ∧ y < (atD g x).alive.length
    ·show I64 (waysErr (atD g x) y)
     rw [waysErr_ok h9 h8]; exact small_i64 (by decide) (by decide)
    ·show I64 (waysErr (atD g x) y)
     rw [waysErr_none h9 h8]; exact small_i64 (by decide) (by decide)
   ·show I64 (waysErr (atD g x) y)
    rw [waysErr_bad h9]; exact shot_i64 _
 have HSN := Lib.hid hsn
 clear BG BN hwq hq hsn
 refine anyH_begin S1 (by kernel_rfl) ?_
 refine tH 0 ?_ ?_ <| tH 1 ?_ ?_ <| tH 2 ?_ ?_ <| tH 3 ?_ ?_ <| tH 4 ?_ ?_ ?_
 iterate 5
  rotate_left
  ·intro w hSw; rw [hSS.out] at hSw; obtain ⟨sw0, sw1, sw2, sw3, sw4⟩ := hSw; (try simp only [pS]); go_simp; try with_reducible rfl
 try simp only [pS]
 refine anyH_one (i := 5) rfl (by kernel_rfl) fun K hK => ?_
 go_wp2_with fail
 refine HSN.out.mono ?_
 rintro e w3 ⟨rfl, hlen, hb3⟩
 have hb3 : Below wq.heap.size wq w3 := ext_trans hd0 hb3
 have hS3 := HKS.out _ hb3
 refine hK.out _ _ ⟨hS3, ?_⟩
 clear hK K hS0
 try simp only [pS]
 refine tH 6 ?_ ?_ ?_
 rotate_left
 ·intro w hSw; rw [hSS.out] at hSw; obtain ⟨sw0, sw1, sw2, sw3, sw4⟩ := hSw; (try simp only [pS]); go_simp; try with_reducible rfl
 try simp only [pS]
 refine wpAnyH_done (by kernel_rfl) ?_ _
 try simp only [pS]
 clear hS3
 go_wp2_with fail
 go_ret
 exact ⟨rfl, hlen, ext_trans HWQ.out hb3⟩
set_option maxRecDepth 100000 in
set_option maxHeartbeats 4000000 in
theorem pcosts_in (As Bs An : Option Addr) (cs ds cn gn : Nat) (s : SnapD) (n : List Int) (w : World) (hS : SnapAt w As cs Bs ds s) (hN : IntsAt w An cn n) (hn : n.length = 2) (hg : gn < w.heap.size ∧ w.cell? ⟨gn, 0, none⟩ = some (.slice An n.length cn)) :
  Calls Tryz.prog 56 #[snapV As cs Bs ds s, .pointer (some ⟨gn, 0, none⟩)] w (IntsOut (WaysOut s wCost (arg n 1)) (waysErr s (arg n 1)) w) := by
 obtain ⟨x, y, rfl⟩ := two_of hn
 obtain ⟨b, o, rfl, hb0, x0, x1⟩ := hN.two
 have HSN := Lib.hid hS
 have HX : Hid (w.cell? ⟨b, o + 1, none⟩ = some (.int .i64 y) ∧ w.cell? ⟨gn, 0, none⟩ = some (.slice (some ⟨b, o, none⟩) 2 cn)) := Lib.hid ⟨x1, hg.2⟩
 have hgl := hg.1
 clear hS hN hn hg x0 x1
 go_enter Tryz.func56, Tryz.ntmps56
 go_wp2_with fail
 have BG := Blk.new w 86 #[.slice As s.alive.length cs, .slice Bs s.arcs.length ds]
 have hwq := ext_alloc (Below.refl w.heap.size w) (Obj.cells #[.slice As s.alive.length cs, .slice Bs s.arcs.length ds] 86)
 change Code.wp _ _ _ _ (w.alloc (Obj.cells #[.slice As s.alive.length cs, .slice Bs s.arcs.length ds] 86))
 obtain ⟨wq, hq⟩ : ∃ wq, w.alloc (Obj.cells #[.slice As s.alive.length cs, .slice Bs s.arcs.length ds] 86) = wq := ⟨_, rfl⟩
 rw [hq] at BG hwq ⊢
 obtain ⟨S1, hSS⟩ : ∃ S1 : World → Prop, Hid (S1 = fun w' => w'.cell? ⟨w.heap.size, 0, none⟩ = some (.slice As s.alive.length cs) ∧ w'.cell? ⟨w.heap.size, 1, none⟩ = some (.slice Bs s.arcs.length ds) ∧ w'.cell? ⟨b, o + 1, none⟩ = some (.int .i64 y) ∧ w'.cell? ⟨gn, 0, none⟩ = some (.slice (some ⟨b, o, none⟩) 2 cn)) := ⟨_, Lib.hid rfl⟩
 have HKS : Hid (∀ w', Below wq.heap.size wq w' → S1 w') := Lib.hid fun w' h => by
  have hB := BG.ext h
  have hw := ext_trans hwq h
  rw [hSS.out]
  exact ⟨hB.cell 0, hB.cell 1, (hw.cell (p := ⟨b, o + 1, none⟩) hb0).trans HX.out.1, (hw.cell (p := ⟨gn, 0, none⟩) hgl).trans HX.out.2⟩
 have HWQ := Lib.hid hwq
 have hd0 := below_drew (Below.refl wq.heap.size wq)
 have hS0 : S1 wq.drew := HKS.out _ hd0
 clear BG hwq hq
 refine anyH_begin S1 (by kernel_rfl) ?_
 refine tH 0 ?_ ?_ <| tH 1 ?_ ?_ <| tH 2 ?_ ?_ <| tH 3 ?_ ?_ ?_
 iterate 4
  rotate_left
  ·intro w hSw; rw [hSS.out] at hSw; obtain ⟨sw0, sw1, sw2, sw3⟩ := hSw; (try simp only [pS]); go_simp; try with_reducible rfl
 try simp only [pS]
 refine anyH_one (i := 4) rfl (by kernel_rfl) fun K hK => ?_
 go_wp2_with fail
 refine (plainCosts_any As Bs cs ds s y _ (HSN.out.ext (ext_trans HWQ.out hd0))).mono ?_
 rintro e w3 ⟨l, Al, cl, hl, rfl, hS, hml, hb3⟩
 have hb3 : Below wq.heap.size wq w3 := ext_trans hd0 hb3
 have hS3 := HKS.out _ hb3
 have HL := Lib.hid hl
 refine hK.out _ _ ⟨hS3, ?_⟩
 clear hK K hS0 hl
 try simp only [pS]
 refine tH 5 ?_ ?_ <| tH 6 ?_ ?_ <| tH 7 ?_ ?_ <| tH 8 ?_ ?_ ?_
 iterate 4
  rotate_left
  ·intro w hSw; rw [hSS.out] at hSw; obtain ⟨sw0, sw1, sw2, sw3⟩ := hSw; (try simp only [pS]); go_simp; try with_reducible rfl
 try simp only [pS]
 refine wpAnyH_done (by kernel_rfl) ?_ _
 try simp only [pS]
 clear hS3
 go_wp2_with fail
 go_ret2
 exact ⟨l, Al, cl, HL.out, rfl, hS, hml, ext_trans HWQ.out hb3⟩
theorem entersD_pcosts : Enters Tryz.prog 56 := enters_of Tryz.func56 (by kernel_rfl) rfl
set_option maxRecDepth 100000 in
set_option maxHeartbeats 4000000 in
theorem pcosts_then (A A' An : Option Addr) (c c' cn : Nat) (g : GraphD) (n : List Int) (w : World) (hG : GraphAt w A c A' c' g) (hV : Valid g) (hN : IntsAt w An cn n) (hn : n.length = 2) (ht : ITab w) :
  Calls Tryz.prog 55 #[gV A c A' c' g, .slice An n.length cn] w fun e w' => e = .returned (.string (bs (ansCosts g n))) ∧ (ansCosts g n).length ≤ 100000 ∧ Below w.heap.size w w' := by
 have hmf : ∀ (fn : Fn) (first cap : Array Value) (w : World), (Instr.makeFunc fn first cap).run Tryz.prog w = .ok (.func fn first cap) w := fun _ _ _ _ => rfl
 have HN := Lib.hid hN
 obtain ⟨x, y, rfl⟩ := two_of hn
 obtain ⟨b, o, rfl, hb0, x0, x1⟩ := hN.two
 have HG := Lib.hid hG; have HT := Lib.hid ht; have HV := Lib.hid hV
 have HX := Lib.hid x0
 clear hG ht hV hN hn x0 x1
 go_enter Tryz.func55, Tryz.ntmps55
 go_wp2_with fail
 have BG := (Blk.new w 68 (gC A c A' c' g)).alloc (Obj.cells #[.slice (some ⟨b, o, none⟩) 2 cn] 55)
 have BN := Blk.new (w.alloc (Obj.cells (gC A c A' c' g) 68)) 55 #[.slice (some ⟨b, o, none⟩) 2 cn]
 rw [show (w.alloc (Obj.cells (gC A c A' c' g) 68)).heap.size = w.heap.size + 1 by simp] at BN
 have hwq := ext_alloc (ext_alloc (Below.refl w.heap.size w) (Obj.cells (gC A c A' c' g) 68)) (Obj.cells #[.slice (some ⟨b, o, none⟩) 2 cn] 55)
 change Code.wp _ _ _ _ ((w.alloc (Obj.cells (gC A c A' c' g) 68)).alloc (Obj.cells #[.slice (some ⟨b, o, none⟩) 2 cn] 55))
 obtain ⟨wq, hq⟩ : ∃ wq, (w.alloc (Obj.cells (gC A c A' c' g) 68)).alloc (Obj.cells #[.slice (some ⟨b, o, none⟩) 2 cn] 55) = wq := ⟨_, rfl⟩
 rw [hq] at BG BN hwq ⊢
 obtain ⟨S1, hSS⟩ : ∃ S1 : World → Prop, Hid (S1 = fun w' => w'.cell? ⟨w.heap.size, 0, none⟩ = some (.int .i64 g.h) ∧ w'.cell? ⟨w.heap.size, 1, none⟩ = some (.slice A g.lives.length c) ∧ w'.cell? ⟨w.heap.size, 2, none⟩ = some (.slice A' g.edges.length c') ∧ w'.cell? ⟨b, o, none⟩ = some (.int .i64 x) ∧ w'.cell? ⟨w.heap.size + 1, 0, none⟩ = some (.slice (some ⟨b, o, none⟩) 2 cn)) := ⟨_, Lib.hid rfl⟩
 have HKS : Hid (∀ w', Below wq.heap.size wq w' → S1 w') := Lib.hid fun w' h => by
  have hB := BG.ext h
  have hB2 := BN.ext h
  have hw := ext_trans hwq h
  rw [hSS.out]
  exact ⟨hB.cell 0, hB.cell 1, hB.cell 2, (hw.cell (p := ⟨b, o, none⟩) hb0).trans HX.out, hB2.cell 0⟩
 have HWQ := Lib.hid hwq
 have HBN := Lib.hid BN
 have hd0 := below_drew (Below.refl wq.heap.size wq)
 have hS0 : S1 wq.drew := HKS.out _ hd0
 have hsn : Calls Tryz.prog 52 #[gV A c A' c' g, .int .i64 x, .func (.func 56) #[] #[.pointer (some ⟨w.heap.size + 1, 0, none⟩)]] wq.drew fun e w' => e = .returned (.string (bs (ansCosts g [x, y]))) ∧ (ansCosts g [x, y]).length ≤ 100000 ∧ Below wq.drew.heap.size wq.drew w' := by
  refine (snapped_any 56 #[.pointer (some ⟨w.heap.size + 1, 0, none⟩)] (fun s => (the (WaysOut s wCost y), waysErr s y)) A A' c c' g x wq.drew (HG.out.ext (ext_trans hwq hd0)) (HT.out.ext (ext_trans hwq hd0)) entersD_pcosts ?_)
  intro W As cs Bs ds hW hSA
  have hB := HBN.out.ext (ext_trans hd0 hW)
  refine (pcosts_in As Bs (some ⟨b, o, none⟩) cs ds cn (w.heap.size + 1) (atD g x) [x, y] W hSA (HN.out.ext (ext_trans hwq (ext_trans hd0 hW))) rfl ⟨hB.lt, hB.cell 0⟩).mono ?_
  rintro e w' ⟨l, Al, cl, hl, rfl, hS, hml, hb⟩
  refine ⟨l, Al, cl, ⟨(ways_the hl).symm, ?_, ?_⟩, rfl, hS, hml, hb⟩
  ·have h1 := ways_len hl
   have h2 := atD_len g x HV.out
   omega
  ·by_cases h9 : shotErr (atD g x) = 0
   ·by_cases h8 : 0 ≤ y ∧ y < (atD g x).alive.length
    ·show I64 (waysErr (atD g x) y)
     rw [waysErr_ok h9 h8]; exact small_i64 (by decide) (by decide)
    ·show I64 (waysErr (atD g x) y)
     rw [waysErr_none h9 h8]; exact small_i64 (by decide) (by decide)
   ·show I64 (waysErr (atD g x) y)
    rw [waysErr_bad h9]; exact shot_i64 _
 have HSN := Lib.hid hsn
 clear BG BN hwq hq hsn
 refine anyH_begin S1 (by kernel_rfl) ?_
 refine tH 0 ?_ ?_ <| tH 1 ?_ ?_ <| tH 2 ?_ ?_ <| tH 3 ?_ ?_ <| tH 4 ?_ ?_ ?_
 iterate 5
  rotate_left
  ·intro w hSw; rw [hSS.out] at hSw; obtain ⟨sw0, sw1, sw2, sw3, sw4⟩ := hSw; (try simp only [pS]); go_simp; try with_reducible rfl
 try simp only [pS]
 refine anyH_one (i := 5) rfl (by kernel_rfl) fun K hK => ?_
 go_wp2_with fail
 refine HSN.out.mono ?_
 rintro e w3 ⟨rfl, hlen, hb3⟩
 have hb3 : Below wq.heap.size wq w3 := ext_trans hd0 hb3
 have hS3 := HKS.out _ hb3
 refine hK.out _ _ ⟨hS3, ?_⟩
 clear hK K hS0
 try simp only [pS]
 refine tH 6 ?_ ?_ ?_
 rotate_left
 ·intro w hSw; rw [hSS.out] at hSw; obtain ⟨sw0, sw1, sw2, sw3, sw4⟩ := hSw; (try simp only [pS]); go_simp; try with_reducible rfl
 try simp only [pS]
 refine wpAnyH_done (by kernel_rfl) ?_ _
 try simp only [pS]
 clear hS3
 go_wp2_with fail
 go_ret
 exact ⟨rfl, hlen, ext_trans HWQ.out hb3⟩
theorem one_of {n : List Int} (h : n.length = 1) : ∃ x, n = [x] := by
 match n, h with
 | [x], _ => exact ⟨x, rfl⟩
theorem entersD_labels : Enters Tryz.prog 59 := enters_of Tryz.func59 (by kernel_rfl) rfl
set_option maxRecDepth 100000 in
set_option maxHeartbeats 4000000 in
theorem labels_then (A A' An : Option Addr) (c c' cn : Nat) (g : GraphD) (n : List Int) (w : World) (hG : GraphAt w A c A' c' g) (hV : Valid g) (hN : IntsAt w An cn n) (hn : n.length = 1) (ht : ITab w) :
  Calls Tryz.prog 58 #[gV A c A' c' g, .slice An n.length cn] w fun e w' => e = .returned (.string (bs (ansLabels g n))) ∧ (ansLabels g n).length ≤ 100000 ∧ Below w.heap.size w w' := by
 have HN := Lib.hid hN
 obtain ⟨x, rfl⟩ := one_of hn
 obtain ⟨b, o, rfl, hb0, x0⟩ := hN.get (k := 0) (x := x) rfl
 rw [Nat.add_zero] at x0
 have HG := Lib.hid hG; have HT := Lib.hid ht; have HV := Lib.hid hV
 have HX := Lib.hid x0
 clear hG ht hV hN hn x0
 go_enter Tryz.func58, Tryz.ntmps58
 go_wp2_with fail
 have BG := Blk.new w 68 (gC A c A' c' g)
 have hwq := ext_alloc (Below.refl w.heap.size w) (Obj.cells (gC A c A' c' g) 68)
 change Code.wp _ _ _ _ (w.alloc (Obj.cells (gC A c A' c' g) 68))
 obtain ⟨wq, hq⟩ : ∃ wq, w.alloc (Obj.cells (gC A c A' c' g) 68) = wq := ⟨_, rfl⟩
 rw [hq] at BG hwq ⊢
 obtain ⟨S1, hSS⟩ : ∃ S1 : World → Prop, Hid (S1 = fun w' => w'.cell? ⟨w.heap.size, 0, none⟩ = some (.int .i64 g.h) ∧ w'.cell? ⟨w.heap.size, 1, none⟩ = some (.slice A g.lives.length c) ∧ w'.cell? ⟨w.heap.size, 2, none⟩ = some (.slice A' g.edges.length c') ∧ w'.cell? ⟨b, o, none⟩ = some (.int .i64 x)) := ⟨_, Lib.hid rfl⟩
 have HKS : Hid (∀ w', Below wq.heap.size wq w' → S1 w') := Lib.hid fun w' h => by
  have hB := BG.ext h
  have hw := ext_trans hwq h
  rw [hSS.out]
  exact ⟨hB.cell 0, hB.cell 1, hB.cell 2, (hw.cell (p := ⟨b, o, none⟩) hb0).trans HX.out⟩
 have HWQ := Lib.hid hwq
 have hd0 := below_drew (Below.refl wq.heap.size wq)
 have hS0 : S1 wq.drew := HKS.out _ hd0
 have hsn : Calls Tryz.prog 52 #[gV A c A' c' g, .int .i64 x, .func (.func 59) #[] #[]] wq.drew fun e w' => e = .returned (.string (bs (ansLabels g [x]))) ∧ (ansLabels g [x]).length ≤ 100000 ∧ Below wq.drew.heap.size wq.drew w' := by
  refine (snapped_any 59 #[] (fun s => (the (LabelsOut s), shotErr s)) A A' c c' g x wq.drew (HG.out.ext (ext_trans hwq hd0)) (HT.out.ext (ext_trans hwq hd0)) entersD_labels ?_)
  intro W As cs Bs ds hW hSA
  refine (labels_any As Bs cs ds (atD g x) W hSA).mono ?_
  rintro e w' ⟨l, Al, cl, hl, rfl, hS, hml, hb⟩
  refine ⟨l, Al, cl, ⟨(labels_the hl).symm, ?_, shot_i64 _⟩, rfl, hS, hml, hb⟩
  have h1 := labels_len hl
  have h2 := atD_len g x HV.out
  omega
 have HSN := Lib.hid hsn
 clear BG hwq hq hsn
 refine anyH_begin S1 (by kernel_rfl) ?_
 refine tH 0 ?_ ?_ <| tH 1 ?_ ?_ <| tH 2 ?_ ?_ <| tH 3 ?_ ?_ ?_
 iterate 4
  rotate_left
  ·intro w hSw; rw [hSS.out] at hSw; obtain ⟨sw0, sw1, sw2, sw3⟩ := hSw; (try simp only [pS]); go_simp; try with_reducible rfl
 try simp only [pS]
 refine anyH_one (i := 4) rfl (by kernel_rfl) fun K hK => ?_
 go_wp2_with fail
 refine HSN.out.mono ?_
 rintro e w3 ⟨rfl, hlen, hb3⟩
 have hb3 : Below wq.heap.size wq w3 := ext_trans hd0 hb3
 have hS3 := HKS.out _ hb3
 refine hK.out _ _ ⟨hS3, ?_⟩
 clear hK K hS0
 try simp only [pS]
 refine tH 5 ?_ ?_ ?_
 rotate_left
 ·intro w hSw; rw [hSS.out] at hSw; obtain ⟨sw0, sw1, sw2, sw3⟩ := hSw; (try simp only [pS]); go_simp; try with_reducible rfl
 try simp only [pS]
 refine wpAnyH_done (by kernel_rfl) ?_ _
 try simp only [pS]
 clear hS3
 go_wp2_with fail
 go_ret
 exact ⟨rfl, hlen, ext_trans HWQ.out hb3⟩
end Go.Proofs.YtjcimdpldlamfaaGreatDoor
/- The walk of desk.pieces (printed by genpiecest.py). -/
namespace Go.Proofs.YtjcimdpldlamfaaGreatDoor
open Go.RowKit

set_option maxRecDepth 100000 in
set_option maxHeartbeats 8000000 in
theorem pieces_any (A : Option Addr) (c : Nat) (m : List PieceD) (w : World) (hA : PiecesAt w A c m) (hl : m.length ≤ 100000) (ht : ITab w) :
  Calls Tryz.prog 107 #[.slice A m.length c] w fun e w' => e = .returned (.string (bs (piecesT m))) ∧ Below w.heap.size w w' := by
 have HA := Lib.hid hA; have HT := Lib.hid ht
 have m1 : m.length ≤ 9223372036854775807 := Nat.le_trans hA.lc hA.cm
 clear hA ht
 obtain ⟨i0, hi, hz0, hz1, hz2⟩ := info_str2
 go_enter Tryz.func107, Tryz.ntmps107
 go_wp2_with fail
 go_loopw [3, 8] (fun u v wr => ∃ k : Nat, k ≤ m.length ∧ v = .int .i64 k ∧ Own strEnc 1 wr w.heap.size 9 u ((m.take k).map pieceT) ∧ Below w.heap.size w wr) (fun _ v _ => m.length - (intOf v).toNat)
 case atStart => exact ⟨0, Nat.zero_le _, rfl, Own.nil, Below.refl _ _⟩
 case round =>
  obtain ⟨k, hk, rfl, hO, hb⟩ := hrel
  have hzr := hb.size
  have hcl : ((m.take k).map pieceT).length + 1 ≤ 1000000 := by rw [List.length_map, List.length_take]; omega
  by_cases hlt : k < m.length
  case neg =>
   obtain rfl : k = m.length := by omega
   rw [List.take_length] at hO hcl
   obtain ⟨out, ho⟩ : ∃ out, m.map pieceT = out := ⟨_, rfl⟩
   have hol : out.length = m.length := by rw [← ho, List.length_map]
   rw [ho] at hO hcl
   obtain ⟨Ao, co, rfl, hS⟩ := own_strs hO
   have HO := Lib.hid ho
   cases m with
   | nil =>
    obtain rfl : out = [] := by rw [← ho]; rfl
    clear hO ho hol
    go_wp2_with fail
    go_ret
    exact ⟨rfl, hb⟩
   | cons x r =>
    have hne : (((out.length : Nat) : Int) == 0) = false := by rw [hol]; simp; omega
    have hj := join_any Ao co out 44 wr hS (by
     have h1 := joinB_len (c := 44) (m := 65) (l := out) fun y hy => by
      rw [← ho] at hy
      obtain ⟨p, hp, rfl⟩ := List.mem_map.1 hy
      obtain ⟨j, hj⟩ := List.getElem?_of_mem hp
      have h9 := HA.out.i64 hj
      exact pieceT_len h9.1 h9.2.1 h9.2.2
     rw [hol] at h1
     omega)
    have HR : Hid (piecesT (x :: r) = joinB 44 out) := Lib.hid (by rw [← ho]; unfold piecesT; rw [if_neg (by simp)])
    clear hO ho hol hS
    go_wp2_with fail
    refine hj.mono ?_
    rintro e w2 ⟨rfl, hb2⟩
    clear hj
    go_wp2_with fail
    go_ret
    exact ⟨by rw [HR.out]; rfl, ext_trans hb hb2⟩
  case pos =>
   obtain ⟨p, hp⟩ := get_lt hlt
   obtain ⟨b, off, rfl, hb0, y0, y1, y2⟩ := HA.out.get hp
   obtain ⟨q0, q1, q2⟩ := HA.out.i64 hp
   have x0 := (hb.cell (p := ⟨b, off + k * 3, none⟩) hb0).trans y0
   have x1 := (hb.cell (p := ⟨b, off + k * 3 + 1, none⟩) hb0).trans y1
   have x2 := (hb.cell (p := ⟨b, off + k * 3 + 2, none⟩) hb0).trans y2
   clear y0 y1 y2
   have hif := fun W (h : ITab W) => itoa_any p.f q0 W h
   have hit := fun W (h : ITab W) => itoa_any p.t q1 W h
   have hiv := fun W (h : ITab W) => itoa_any p.v q2 W h
   have l0 := Lib.itoa_length_le p.f q0.1 q0.2
   have l1 := Lib.itoa_length_le p.t q1.1 q1.2
   have l2 := Lib.itoa_length_le p.v q2.1 q2.2
   obtain ⟨out, ho⟩ : ∃ out, (m.take k).map pieceT = out := ⟨_, rfl⟩
   have HN0 : Hid (out ++ [pieceT p] = (m.take (k + 1)).map pieceT) := Lib.hid (by rw [← ho]; exact map_take1 hp)
   rw [ho] at hO hcl
   have hpt : pieceT p = Lib.itoa p.f ++ [45] ++ Lib.itoa p.t ++ [58] ++ Lib.itoa p.v := rfl
   rw [hpt] at HN0
   obtain ⟨tf, htf⟩ : ∃ tf, Lib.itoa p.f = tf := ⟨_, rfl⟩
   obtain ⟨tt, htt⟩ : ∃ tt, Lib.itoa p.t = tt := ⟨_, rfl⟩
   obtain ⟨tv, htv⟩ : ∃ tv, Lib.itoa p.v = tv := ⟨_, rfl⟩
   rw [htf] at l0 HN0
   rw [htt] at l1 HN0
   rw [htv] at l2 HN0
   simp only [htf] at hif
   simp only [htt] at hit
   simp only [htv] at hiv
   have hc1 := cat_run tf [45] (by simp; omega)
   have hc2 := cat_run (tf ++ [45]) tt (by simp; omega)
   have hc3 := cat_run (tf ++ [45] ++ tt) [58] (by simp; omega)
   have hc4 := cat_run (tf ++ [45] ++ tt ++ [58]) tv (by simp; omega)
   obtain ⟨u1, hu1⟩ : ∃ u, tf ++ [45] = u := ⟨_, rfl⟩
   rw [hu1] at hc1 hc2 hc3 hc4 HN0
   obtain ⟨u2, hu2⟩ : ∃ u, u1 ++ tt = u := ⟨_, rfl⟩
   rw [hu2] at hc2 hc3 hc4 HN0
   obtain ⟨u3, hu3⟩ : ∃ u, u2 ++ [58] = u := ⟨_, rfl⟩
   rw [hu3] at hc3 hc4 HN0
   obtain ⟨u4, hu4⟩ : ∃ u, u3 ++ tv = u := ⟨_, rfl⟩
   rw [hu4] at hc4 HN0
   have HN := HN0
   have HTR := Lib.hid (HT.out.ext hb)
   clear hp ho hpt htf htt htv hu1 hu2 hu3 hu4 HN0
   go_upto_region 5 with fail
   have BP := Blk.new wr 113 #[.int .i64 p.f, .int .i64 p.t, .int .i64 p.v]
   have hal : Below wr.heap.size wr (wr.alloc (Obj.cells #[.int .i64 p.f, .int .i64 p.t, .int .i64 p.v] 113)) := ext_alloc (Below.refl _ _) _
   have hbq := ext_alloc hb (Obj.cells #[.int .i64 p.f, .int .i64 p.t, .int .i64 p.v] 113)
   have hO := hO.alloc (Obj.cells #[.int .i64 p.f, .int .i64 p.t, .int .i64 p.v] 113)
   obtain ⟨wq, hwq⟩ : ∃ wq, wr.alloc (Obj.cells #[.int .i64 p.f, .int .i64 p.t, .int .i64 p.v] 113) = wq := ⟨_, rfl⟩
   obtain ⟨gp, hgp⟩ : ∃ gp, wr.heap.size = gp := ⟨_, rfl⟩
   rw [hwq] at BP hal hbq hO ⊢
   rw [hgp] at BP ⊢
   have HTQ := Lib.hid (HTR.out.ext hal)
   have HO := Lib.hid hO
   have HBP := Lib.hid BP
   have HBQ := Lib.hid hbq
   have HZ : Hid (w.heap.size ≤ wq.heap.size) := Lib.hid hbq.size
   have HF : Hid (∀ W, Below wq.heap.size wq W → Calls Tryz.prog 36 #[.int .i64 p.f] W fun e w' => e = .returned (.string (bs tf)) ∧ Below W.heap.size W w') := Lib.hid fun W h => hif W (HTQ.out.ext h)
   have HTT : Hid (∀ W, Below wq.heap.size wq W → Calls Tryz.prog 36 #[.int .i64 p.t] W fun e w' => e = .returned (.string (bs tt)) ∧ Below W.heap.size W w') := Lib.hid fun W h => hit W (HTQ.out.ext h)
   have HV : Hid (∀ W, Below wq.heap.size wq W → Calls Tryz.prog 36 #[.int .i64 p.v] W fun e w' => e = .returned (.string (bs tv)) ∧ Below W.heap.size W w') := Lib.hid fun W h => hiv W (HTQ.out.ext h)
   obtain ⟨S1, hSS⟩ : ∃ S1 : World → Prop, Hid (S1 = fun w' => w'.cell? ⟨gp, 0, none⟩ = some (.int .i64 p.f) ∧ w'.cell? ⟨gp, 1, none⟩ = some (.int .i64 p.t) ∧ w'.cell? ⟨gp, 2, none⟩ = some (.int .i64 p.v)) := ⟨_, Lib.hid rfl⟩
   have HKS : Hid (∀ w', Below wq.heap.size wq w' → S1 w') := Lib.hid fun w' h => by
    have hB := HBP.out.ext h
    rw [hSS.out]
    exact ⟨hB.cell 0, hB.cell 1, hB.cell 2⟩
   have hd0 := below_drew (Below.refl wq.heap.size wq)
   have hS0 : S1 wq.drew := HKS.out _ hd0
   clear hO BP hbq hif hit hiv hwq hgp hal x0 x1 x2
   refine anyH_begin S1 (by kernel_rfl) ?_
   refine tH 0 ?_ ?_ <| tH 1 ?_ ?_ <| tH 2 ?_ ?_ <| tH 5 ?_ ?_ <| tH 6 ?_ ?_ <| tH 10 ?_ ?_ <| tH 11 ?_ ?_ ?_
   iterate 7
    rotate_left
    ·intro w hSw; rw [hSS.out] at hSw; obtain ⟨sw0, sw1, sw2⟩ := hSw; (try simp only [pS]); go_simp; try with_reducible rfl
   try simp only [pS]
   refine anyH_one (i := 3) rfl (by kernel_rfl) fun K hK => ?_
   go_wp2_with fail
   refine (HF.out _ hd0).mono ?_
   rintro e w3 ⟨rfl, hbx3⟩
   have hb3 : Below wq.heap.size wq w3 := ext_trans hd0 hbx3
   refine hK.out _ _ ⟨HKS.out _ hb3, ?_⟩
   have hS3 := HKS.out _ hb3
   clear hK K
   try simp only [pS]
   refine tH 4 ?_ ?_ ?_
   rotate_left
   ·intro w hSw; rw [hSS.out] at hSw; obtain ⟨sw0, sw1, sw2⟩ := hSw; have hc := hc1 w; (try simp only [pS]); go_simp; try with_reducible rfl
   try simp only [pS]
   refine anyH_one (i := 7) rfl (by kernel_rfl) fun K hK => ?_
   go_wp2_with fail
   refine (HTT.out _ hb3).mono ?_
   rintro e w4 ⟨rfl, hbx7⟩
   have hb7 : Below wq.heap.size wq w4 := ext_trans hb3 hbx7
   refine hK.out _ _ ⟨HKS.out _ hb7, ?_⟩
   have hS7 := HKS.out _ hb7
   clear hK K
   try simp only [pS]
   refine tH 8 ?_ ?_ ?_
   rotate_left
   ·intro w hSw; rw [hSS.out] at hSw; obtain ⟨sw0, sw1, sw2⟩ := hSw; have hc := hc2 w; (try simp only [pS]); go_simp; try with_reducible rfl
   try simp only [pS]
   refine tH 9 ?_ ?_ ?_
   rotate_left
   ·intro w hSw; rw [hSS.out] at hSw; obtain ⟨sw0, sw1, sw2⟩ := hSw; have hc := hc3 w; (try simp only [pS]); go_simp; try with_reducible rfl
   try simp only [pS]
   refine anyH_one (i := 12) rfl (by kernel_rfl) fun K hK => ?_
   go_wp2_with fail
   refine (HV.out _ hb7).mono ?_
   rintro e w5 ⟨rfl, hbx12⟩
   have hb12 : Below wq.heap.size wq w5 := ext_trans hb7 hbx12
   refine hK.out _ _ ⟨HKS.out _ hb12, ?_⟩
   have hS12 := HKS.out _ hb12
   clear hK K
   try simp only [pS]
   refine tH 13 ?_ ?_ ?_
   rotate_left
   ·intro w hSw; rw [hSS.out] at hSw; obtain ⟨sw0, sw1, sw2⟩ := hSw; have hc := hc4 w; (try simp only [pS]); go_simp; try with_reducible rfl
   try simp only [pS]
   refine anyH_one (i := 14) rfl (by kernel_rfl) fun K hK => ?_
   go_wp2_with fail
   have hb14 := ext_alloc hb12 (Obj.cells #[.string (bs u4)] 9)
   refine hK.out _ _ ⟨HKS.out _ hb14, ?_⟩
   have hS14 := HKS.out _ hb14
   clear hK K
   try simp only [pS]
   refine anyH_one (i := 15) rfl (by kernel_rfl) fun K hK => ?_
   have hO9 := (HO.out.ext hb12).alloc (Obj.cells #[.string (bs u4)] 9)
   refine wp_append_big (enc := strEnc) (.tmp 12) (.tmp 26) 23 rfl w.heap.size 9 i0 _ 1 16 Tryz.underlying23 hi hz0 hz1 hz2 rfl (by decide) _ out u4 rfl hO9 #[.string (bs u4)] rfl w5.heap.size (Blk.new _ _ _) rfl rfl str_one (by unfold maxLen; omega) (by omega) (Nat.le_trans HZ.out hb14.size) ?_
   intro v9 w9 hown9 hbb9 hoth9
   have hb15 : Below w.heap.size wq w9 := (hb14.mono HZ.out).trans hbb9
   have hS15 : S1 w9 := by
    have hB := hoth9 _ _ _ (HBP.out.ext hb14) (by decide)
    rw [hSS.out]
    exact ⟨hB.cell 0, hB.cell 1, hB.cell 2⟩
   refine hK.out _ _ ⟨hS15, ?_⟩
   clear hK K hS14
   try simp only [pS]
   refine tH 16 ?_ ?_ ?_
   rotate_left
   ·intro w hSw; rw [hSS.out] at hSw; obtain ⟨sw0, sw1, sw2⟩ := hSw; (try simp only [pS]); go_simp; try with_reducible rfl
   try simp only [pS]
   refine wpAnyH_done (by kernel_rfl) ?_ _
   try simp only [pS]
   clear hS0 hS3 hS7 hS12 hS15 hO9
   go_wp2_with fail
   go_roundw
   case rel => exact ⟨k + 1, by omega, by go_num, by rw [← HN.out]; exact hown9, HBQ.out.trans hb15⟩
   case measure => simp [intOf]; omega
end Go.Proofs.YtjcimdpldlamfaaGreatDoor
/- What runs tell, held against each other: the walks of timekeep.runs and of EqualFunc at maps. -/
namespace Go.Proofs.YtjcimdpldlamfaaGreatDoor
open Go.RowKit

/-- A row of lists. -/
def RSide (w : World) (b o : Nat) (x : VSide) : Prop := cellIs w b o (sV x)
theorem own_sides {w : World} {base : Nat} {A : Option Addr} {c : Nat} {l : List VSide} (h : Own sideC 1 w base 111 (.slice A l.length c) l) : SlAt RSide 1 w A l := by
 obtain ⟨A', c', hv, hs⟩ := Own.slAt (R := RSide) (enc := sideC) (fun _ => rfl) (fun x _ b o hc => by have h1 := hc 0 _ rfl; show cellIs w b o (sV x); simpa using h1) h
 simp only [Value.slice.injEq] at hv
 obtain ⟨rfl, _⟩ := hv
 exact hs
theorem SlAt.side {w w0 : World} {A : Option Addr} {l : List VSide} {i : Nat} {x : VSide} (h : SlAt RSide 1 w0 A l) (hx : l[i]? = some x) (hb : Below w0.heap.size w0 w) : ∃ b o, A = some ⟨b, o, none⟩ ∧ b < w.heap.size ∧ w.cell? ⟨b, o + i, none⟩ = some (.slice x.2.1 x.1.length x.2.2) := by
 obtain ⟨b, o, hS⟩ := h
 obtain ⟨h1, h2, h3⟩ := hS i x hx
 unfold RSide cellIs at h3
 rw [Nat.mul_one] at h3
 exact ⟨b, o, h1, Nat.lt_of_lt_of_le h2 hb.size, (hb.cell (p := ⟨b, o + i, none⟩) h2).trans h3⟩
def SidesAt (w : World) (l : List VSide) : Prop := ∀ x, x ∈ l → PiecesAt w x.2.1 x.2.2 x.1
theorem Sides.at_ {w : World} {base : Nat} {l : List VSide} {h : Int} (hS : Sides w base 113 l) (hl : ∀ m, m ∈ l.map Prod.fst → Lies h m) (hh : h ≤ 100) : SidesAt w l := fun x hx => ownPieces_at (hS.own x hx) (lies_msg (hl _ (List.mem_map.2 ⟨x, hx, rfl⟩))) hh
theorem SidesAt.ext {w w' : World} {l : List VSide} (h : SidesAt w l) (hb : Below w.heap.size w w') : SidesAt w' l := fun x hx => (h x hx).ext hb
end Go.Proofs.YtjcimdpldlamfaaGreatDoor
