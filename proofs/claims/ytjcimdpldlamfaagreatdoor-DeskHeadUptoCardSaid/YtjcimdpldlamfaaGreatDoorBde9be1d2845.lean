/- Several texts in one: DeskThen, DeskSnap. -/
import Derived.Test.YtjcimdpldlamfaaGreatDoorBd1aa46607c4
import Derived.Test.YtjcimdpldlamfaaGreatDoorBdc202a36710
import Derived.Test.YtjcimdpldlamfaaGreatDoorBd5dcf06900f
import Derived.Test.YtjcimdpldlamfaaGreatDoorBd063e407aa3
import Derived.Test.YtjcimdpldlamfaaGreatDoorBdeff2250ea6
/- The walks of the desk's closures that ask and tell (printed by gendesk.py). -/
namespace Go.Proofs.YtjcimdpldlamfaaGreatDoor
open Go.RowKit

theorem goAll_any (A A' Ah : Option Addr) (c c' ch : Nat) (g : GraphD) (v t : Int) (l : List HopD) (w : World) (hG : GraphAt w A c A' c' g) (hH : SlAt RHop 2 w Ah l) (hhl : l.length ≤ maxLen) :
  Calls Tryz.prog 47 #[gV A c A' c' g, .int .i64 v, .int .i64 t, .slice Ah l.length ch] w fun e w' => e = .returned (goV (goR g v t l)) ∧ Below w.heap.size w w' :=
 go_early A A' Ah c c' ch g v t l w hG hH hhl fun h0 h5 ha => go_main A A' Ah c c' ch g v t l w hG hH hhl h0 h5 ha
theorem two_of {n : List Int} (h : n.length = 2) : ∃ x y, n = [x, y] := by
 match n, h with
 | [x, y], _ => exact ⟨x, y, rfl⟩
theorem IntsAt.two {w : World} {A : Option Addr} {c : Nat} {x y : Int} (h : IntsAt w A c [x, y]) : ∃ b o, A = some ⟨b, o, none⟩ ∧ b < w.heap.size ∧ w.cell? ⟨b, o, none⟩ = some (.int .i64 x) ∧ w.cell? ⟨b, o + 1, none⟩ = some (.int .i64 y) := by
 obtain ⟨b, o, rfl, hb0, x0⟩ := h.get (k := 0) (x := x) rfl
 obtain ⟨b', o', he, _, x1⟩ := h.get (k := 1) (x := y) rfl
 simp only [Option.some.injEq, Addr.mk.injEq, and_true] at he
 obtain ⟨rfl, rfl⟩ := he
 exact ⟨b, o, rfl, hb0, by simpa using x0, x1⟩
theorem ints_any {w : World} {A : Option Addr} {l : List Int} (h : SlAt RInt 1 w A l) (hm : l.length ≤ maxLen) : IntsAt w A l.length l := ⟨Nat.le_refl _, hm, h⟩
set_option maxRecDepth 100000 in
set_option maxHeartbeats 4000000 in
theorem early_then (A A' An : Option Addr) (c c' cn : Nat) (g : GraphD) (n : List Int) (w : World) (hG : GraphAt w A c A' c' g) (hV : Valid g) (hN : IntsAt w An cn n) (hn : n.length = 2) (ht : ITab w) :
  Calls Tryz.prog 61 #[gV A c A' c' g, .slice An n.length cn] w fun e w' => e = .returned (.string (bs (ansEarly g n))) ∧ (ansEarly g n).length ≤ 100000 ∧ Below w.heap.size w w' := by
 obtain ⟨x, y, rfl⟩ := two_of hn
 obtain ⟨b, o, rfl, hb0, x0, x1⟩ := hN.two
 have HG := Lib.hid hG; have HT := Lib.hid ht; have HV := Lib.hid hV
 clear hG ht hV hN hn
 go_enter Tryz.func61, Tryz.ntmps61
 go_wp2_with fail
 have BG := Blk.new w 68 (gC A c A' c' g)
 have hwq := ext_alloc (Below.refl w.heap.size w) (Obj.cells (gC A c A' c' g) 68)
 change Code.wp _ _ _ _ (w.alloc (Obj.cells (gC A c A' c' g) 68))
 obtain ⟨wq, hq⟩ : ∃ wq, w.alloc (Obj.cells (gC A c A' c' g) 68) = wq := ⟨_, rfl⟩
 rw [hq] at BG hwq ⊢
 obtain ⟨S1, hSS⟩ : ∃ S1 : World → Prop, Hid (S1 = fun w' => w'.cell? ⟨w.heap.size, 0, none⟩ = some (.int .i64 g.h) ∧ w'.cell? ⟨w.heap.size, 1, none⟩ = some (.slice A g.lives.length c) ∧ w'.cell? ⟨w.heap.size, 2, none⟩ = some (.slice A' g.edges.length c') ∧ w'.cell? ⟨b, o, none⟩ = some (.int .i64 x) ∧ w'.cell? ⟨b, o + 1, none⟩ = some (.int .i64 y)) := ⟨_, Lib.hid rfl⟩
 have HX : Hid (w.cell? ⟨b, o, none⟩ = some (.int .i64 x) ∧ w.cell? ⟨b, o + 1, none⟩ = some (.int .i64 y)) := Lib.hid ⟨x0, x1⟩
 have HKS : Hid (∀ w', Below wq.heap.size wq w' → S1 w') := Lib.hid fun w' h => by
  have hB := BG.ext h
  have hw := ext_trans hwq h
  rw [hSS.out]
  exact ⟨hB.cell 0, hB.cell 1, hB.cell 2, (hw.cell (p := ⟨b, o, none⟩) hb0).trans HX.out.1, (hw.cell (p := ⟨b, o + 1, none⟩) hb0).trans HX.out.2⟩
 have HWQ := Lib.hid hwq
 have hd0 := below_drew (Below.refl wq.heap.size wq)
 have hS0 : S1 wq.drew := HKS.out _ hd0
 clear x0 x1 BG hwq hq
 refine anyH_begin S1 (by kernel_rfl) ?_
 refine tH 0 ?_ ?_ <| tH 1 ?_ ?_ <| tH 2 ?_ ?_ <| tH 3 ?_ ?_ <| tH 4 ?_ ?_ <| tH 5 ?_ ?_ <| tH 6 ?_ ?_ ?_
 iterate 7
  rotate_left
  ·intro w hSw; rw [hSS.out] at hSw; obtain ⟨sw0, sw1, sw2, sw3, sw4⟩ := hSw; (try simp only [pS]); go_simp; try with_reducible rfl
 try simp only [pS]
 refine anyH_one (i := 7) rfl (by kernel_rfl) fun K hK => ?_
 go_wp2_with fail
 refine (arrivals_any A A' c c' g x y _ (HG.out.ext (ext_trans HWQ.out hd0))).mono ?_
 rintro e w3 ⟨l, Al, cl, hl, rfl, hS, hml, hb3⟩
 have hb3 : Below wq.heap.size wq w3 := ext_trans hd0 hb3
 have hS3 := HKS.out _ hb3
 have HL : Hid (ArrOut g x y l) := Lib.hid hl
 have HLN : Hid ((toldT l (placeErr g x y)).length ≤ 100000) := Lib.hid (by
  have h1 := toldT_len (ints_any hS hml).i64 (e := placeErr g x y) (by have := placeErr_range g x y; exact small_i64 (by omega) (by omega))
  have h2 := arr_len hl
  have h3 := HV.out.nl
  omega)
 refine hK.out _ _ ⟨hS3, ?_⟩
 clear hK K hS0
 try simp only [pS]
 refine tH 8 ?_ ?_ <| tH 9 ?_ ?_ ?_
 iterate 2
  rotate_left
  ·intro w hSw; rw [hSS.out] at hSw; obtain ⟨sw0, sw1, sw2, sw3, sw4⟩ := hSw; (try simp only [pS]); go_simp; try with_reducible rfl
 try simp only [pS]
 refine anyH_one (i := 10) rfl (by kernel_rfl) fun K hK => ?_
 go_wp2_with fail
 refine (told_any Al l.length cl l (placeErr g x y) w3 (ints_any hS hml) (by have := arr_len HL.out; have := HV.out.nl; omega) (by have := placeErr_range g x y; exact small_i64 (by omega) (by omega)) (HT.out.ext (ext_trans HWQ.out hb3))).mono ?_
 rintro e w4 ⟨rfl, hb4⟩
 have hb4 := ext_trans hb3 hb4
 have hS4 := HKS.out _ hb4
 refine hK.out _ _ ⟨hS4, ?_⟩
 clear hK K hS3
 try simp only [pS]
 refine tH 11 ?_ ?_ ?_
 rotate_left
 ·intro w hSw; rw [hSS.out] at hSw; obtain ⟨sw0, sw1, sw2, sw3, sw4⟩ := hSw; (try simp only [pS]); go_simp; try with_reducible rfl
 try simp only [pS]
 refine wpAnyH_done (by kernel_rfl) ?_ _
 try simp only [pS]
 clear hS4
 go_wp2_with fail
 go_ret
 have hR : ansEarly g [x, y] = toldT l (placeErr g x y) := by
  have h1 := arr_the HL.out
  show toldT (the (ArrOut g x y)) (placeErr g x y) = _
  rw [h1]
 rw [hR]
 exact ⟨rfl, HLN.out, ext_trans HWQ.out hb4⟩
set_option maxRecDepth 100000 in
set_option maxHeartbeats 4000000 in
theorem late_then (A A' An : Option Addr) (c c' cn : Nat) (g : GraphD) (n : List Int) (w : World) (hG : GraphAt w A c A' c' g) (hV : Valid g) (hN : IntsAt w An cn n) (hn : n.length = 2) (ht : ITab w) :
  Calls Tryz.prog 63 #[gV A c A' c' g, .slice An n.length cn] w fun e w' => e = .returned (.string (bs (ansLate g n))) ∧ (ansLate g n).length ≤ 100000 ∧ Below w.heap.size w w' := by
 obtain ⟨x, y, rfl⟩ := two_of hn
 obtain ⟨b, o, rfl, hb0, x0, x1⟩ := hN.two
 have HG := Lib.hid hG; have HT := Lib.hid ht; have HV := Lib.hid hV
 clear hG ht hV hN hn
 go_enter Tryz.func63, Tryz.ntmps63
 go_wp2_with fail
 have BG := Blk.new w 68 (gC A c A' c' g)
 have hwq := ext_alloc (Below.refl w.heap.size w) (Obj.cells (gC A c A' c' g) 68)
 change Code.wp _ _ _ _ (w.alloc (Obj.cells (gC A c A' c' g) 68))
 obtain ⟨wq, hq⟩ : ∃ wq, w.alloc (Obj.cells (gC A c A' c' g) 68) = wq := ⟨_, rfl⟩
 rw [hq] at BG hwq ⊢
 obtain ⟨S1, hSS⟩ : ∃ S1 : World → Prop, Hid (S1 = fun w' => w'.cell? ⟨w.heap.size, 0, none⟩ = some (.int .i64 g.h) ∧ w'.cell? ⟨w.heap.size, 1, none⟩ = some (.slice A g.lives.length c) ∧ w'.cell? ⟨w.heap.size, 2, none⟩ = some (.slice A' g.edges.length c') ∧ w'.cell? ⟨b, o, none⟩ = some (.int .i64 x) ∧ w'.cell? ⟨b, o + 1, none⟩ = some (.int .i64 y)) := ⟨_, Lib.hid rfl⟩
 have HX : Hid (w.cell? ⟨b, o, none⟩ = some (.int .i64 x) ∧ w.cell? ⟨b, o + 1, none⟩ = some (.int .i64 y)) := Lib.hid ⟨x0, x1⟩
 have HKS : Hid (∀ w', Below wq.heap.size wq w' → S1 w') := Lib.hid fun w' h => by
  have hB := BG.ext h
  have hw := ext_trans hwq h
  rw [hSS.out]
  exact ⟨hB.cell 0, hB.cell 1, hB.cell 2, (hw.cell (p := ⟨b, o, none⟩) hb0).trans HX.out.1, (hw.cell (p := ⟨b, o + 1, none⟩) hb0).trans HX.out.2⟩
 have HWQ := Lib.hid hwq
 have hd0 := below_drew (Below.refl wq.heap.size wq)
 have hS0 : S1 wq.drew := HKS.out _ hd0
 clear x0 x1 BG hwq hq
 refine anyH_begin S1 (by kernel_rfl) ?_
 refine tH 0 ?_ ?_ <| tH 1 ?_ ?_ <| tH 2 ?_ ?_ <| tH 3 ?_ ?_ <| tH 4 ?_ ?_ <| tH 5 ?_ ?_ <| tH 6 ?_ ?_ ?_
 iterate 7
  rotate_left
  ·intro w hSw; rw [hSS.out] at hSw; obtain ⟨sw0, sw1, sw2, sw3, sw4⟩ := hSw; (try simp only [pS]); go_simp; try with_reducible rfl
 try simp only [pS]
 refine anyH_one (i := 7) rfl (by kernel_rfl) fun K hK => ?_
 go_wp2_with fail
 refine (departures_any A A' c c' g x y _ (HG.out.ext (ext_trans HWQ.out hd0))).mono ?_
 rintro e w3 ⟨l, Al, cl, hl, rfl, hS, hml, hb3⟩
 have hb3 : Below wq.heap.size wq w3 := ext_trans hd0 hb3
 have hS3 := HKS.out _ hb3
 have HL : Hid (DepOut g x y l) := Lib.hid hl
 have HLN : Hid ((toldT l (placeErr g x y)).length ≤ 100000) := Lib.hid (by
  have h1 := toldT_len (ints_any hS hml).i64 (e := placeErr g x y) (by have := placeErr_range g x y; exact small_i64 (by omega) (by omega))
  have h2 := dep_len hl
  have h3 := HV.out.nl
  omega)
 refine hK.out _ _ ⟨hS3, ?_⟩
 clear hK K hS0
 try simp only [pS]
 refine tH 8 ?_ ?_ <| tH 9 ?_ ?_ ?_
 iterate 2
  rotate_left
  ·intro w hSw; rw [hSS.out] at hSw; obtain ⟨sw0, sw1, sw2, sw3, sw4⟩ := hSw; (try simp only [pS]); go_simp; try with_reducible rfl
 try simp only [pS]
 refine anyH_one (i := 10) rfl (by kernel_rfl) fun K hK => ?_
 go_wp2_with fail
 refine (told_any Al l.length cl l (placeErr g x y) w3 (ints_any hS hml) (by have := dep_len HL.out; have := HV.out.nl; omega) (by have := placeErr_range g x y; exact small_i64 (by omega) (by omega)) (HT.out.ext (ext_trans HWQ.out hb3))).mono ?_
 rintro e w4 ⟨rfl, hb4⟩
 have hb4 := ext_trans hb3 hb4
 have hS4 := HKS.out _ hb4
 refine hK.out _ _ ⟨hS4, ?_⟩
 clear hK K hS3
 try simp only [pS]
 refine tH 11 ?_ ?_ ?_
 rotate_left
 ·intro w hSw; rw [hSS.out] at hSw; obtain ⟨sw0, sw1, sw2, sw3, sw4⟩ := hSw; (try simp only [pS]); go_simp; try with_reducible rfl
 try simp only [pS]
 refine wpAnyH_done (by kernel_rfl) ?_ _
 try simp only [pS]
 clear hS4
 go_wp2_with fail
 go_ret
 have hR : ansLate g [x, y] = toldT l (placeErr g x y) := by
  have h1 := dep_the HL.out
  show toldT (the (DepOut g x y)) (placeErr g x y) = _
  rw [h1]
 rw [hR]
 exact ⟨rfl, HLN.out, ext_trans HWQ.out hb4⟩
set_option maxRecDepth 100000 in
set_option maxHeartbeats 4000000 in
theorem cheap_then (A A' An : Option Addr) (c c' cn : Nat) (g : GraphD) (n : List Int) (w : World) (hG : GraphAt w A c A' c' g) (hV : Valid g) (hN : IntsAt w An cn n) (hn : n.length = 2) (ht : ITab w) :
  Calls Tryz.prog 65 #[gV A c A' c' g, .slice An n.length cn] w fun e w' => e = .returned (.string (bs (ansCheap g n))) ∧ (ansCheap g n).length ≤ 100000 ∧ Below w.heap.size w w' := by
 obtain ⟨x, y, rfl⟩ := two_of hn
 obtain ⟨b, o, rfl, hb0, x0, x1⟩ := hN.two
 have HG := Lib.hid hG; have HT := Lib.hid ht; have HV := Lib.hid hV
 clear hG ht hV hN hn
 go_enter Tryz.func65, Tryz.ntmps65
 go_wp2_with fail
 have BG := Blk.new w 68 (gC A c A' c' g)
 have hwq := ext_alloc (Below.refl w.heap.size w) (Obj.cells (gC A c A' c' g) 68)
 change Code.wp _ _ _ _ (w.alloc (Obj.cells (gC A c A' c' g) 68))
 obtain ⟨wq, hq⟩ : ∃ wq, w.alloc (Obj.cells (gC A c A' c' g) 68) = wq := ⟨_, rfl⟩
 rw [hq] at BG hwq ⊢
 obtain ⟨S1, hSS⟩ : ∃ S1 : World → Prop, Hid (S1 = fun w' => w'.cell? ⟨w.heap.size, 0, none⟩ = some (.int .i64 g.h) ∧ w'.cell? ⟨w.heap.size, 1, none⟩ = some (.slice A g.lives.length c) ∧ w'.cell? ⟨w.heap.size, 2, none⟩ = some (.slice A' g.edges.length c') ∧ w'.cell? ⟨b, o, none⟩ = some (.int .i64 x) ∧ w'.cell? ⟨b, o + 1, none⟩ = some (.int .i64 y)) := ⟨_, Lib.hid rfl⟩
 have HX : Hid (w.cell? ⟨b, o, none⟩ = some (.int .i64 x) ∧ w.cell? ⟨b, o + 1, none⟩ = some (.int .i64 y)) := Lib.hid ⟨x0, x1⟩
 have HKS : Hid (∀ w', Below wq.heap.size wq w' → S1 w') := Lib.hid fun w' h => by
  have hB := BG.ext h
  have hw := ext_trans hwq h
  rw [hSS.out]
  exact ⟨hB.cell 0, hB.cell 1, hB.cell 2, (hw.cell (p := ⟨b, o, none⟩) hb0).trans HX.out.1, (hw.cell (p := ⟨b, o + 1, none⟩) hb0).trans HX.out.2⟩
 have HWQ := Lib.hid hwq
 have hd0 := below_drew (Below.refl wq.heap.size wq)
 have hS0 : S1 wq.drew := HKS.out _ hd0
 clear x0 x1 BG hwq hq
 refine anyH_begin S1 (by kernel_rfl) ?_
 refine tH 0 ?_ ?_ <| tH 1 ?_ ?_ <| tH 2 ?_ ?_ <| tH 3 ?_ ?_ <| tH 4 ?_ ?_ <| tH 5 ?_ ?_ <| tH 6 ?_ ?_ ?_
 iterate 7
  rotate_left
  ·intro w hSw; rw [hSS.out] at hSw; obtain ⟨sw0, sw1, sw2, sw3, sw4⟩ := hSw; (try simp only [pS]); go_simp; try with_reducible rfl
 try simp only [pS]
 refine anyH_one (i := 7) rfl (by kernel_rfl) fun K hK => ?_
 go_wp2_with fail
 refine (costs_any A A' c c' g x y _ (HG.out.ext (ext_trans HWQ.out hd0))).mono ?_
 rintro e w3 ⟨l, Al, cl, hl, rfl, hS, hml, hb3⟩
 have hb3 : Below wq.heap.size wq w3 := ext_trans hd0 hb3
 have hS3 := HKS.out _ hb3
 have HL : Hid (CostsOut g lCost x y l) := Lib.hid hl
 have HLN : Hid ((toldT l (placeErr g x y)).length ≤ 100000) := Lib.hid (by
  have h1 := toldT_len (ints_any hS hml).i64 (e := placeErr g x y) (by have := placeErr_range g x y; exact small_i64 (by omega) (by omega))
  have h2 := costs_len hl
  have h3 := HV.out.nl
  omega)
 refine hK.out _ _ ⟨hS3, ?_⟩
 clear hK K hS0
 try simp only [pS]
 refine tH 8 ?_ ?_ <| tH 9 ?_ ?_ ?_
 iterate 2
  rotate_left
  ·intro w hSw; rw [hSS.out] at hSw; obtain ⟨sw0, sw1, sw2, sw3, sw4⟩ := hSw; (try simp only [pS]); go_simp; try with_reducible rfl
 try simp only [pS]
 refine anyH_one (i := 10) rfl (by kernel_rfl) fun K hK => ?_
 go_wp2_with fail
 refine (told_any Al l.length cl l (placeErr g x y) w3 (ints_any hS hml) (by have := costs_len HL.out; have := HV.out.nl; omega) (by have := placeErr_range g x y; exact small_i64 (by omega) (by omega)) (HT.out.ext (ext_trans HWQ.out hb3))).mono ?_
 rintro e w4 ⟨rfl, hb4⟩
 have hb4 := ext_trans hb3 hb4
 have hS4 := HKS.out _ hb4
 refine hK.out _ _ ⟨hS4, ?_⟩
 clear hK K hS3
 try simp only [pS]
 refine tH 11 ?_ ?_ ?_
 rotate_left
 ·intro w hSw; rw [hSS.out] at hSw; obtain ⟨sw0, sw1, sw2, sw3, sw4⟩ := hSw; (try simp only [pS]); go_simp; try with_reducible rfl
 try simp only [pS]
 refine wpAnyH_done (by kernel_rfl) ?_ _
 try simp only [pS]
 clear hS4
 go_wp2_with fail
 go_ret
 have hR : ansCheap g [x, y] = toldT l (placeErr g x y) := by
  have h1 := costs_the HL.out
  show toldT (the (CostsOut g lCost x y)) (placeErr g x y) = _
  rw [h1]
 rw [hR]
 exact ⟨rfl, HLN.out, ext_trans HWQ.out hb4⟩
set_option maxRecDepth 100000 in
set_option maxHeartbeats 4000000 in
theorem few_then (A A' An : Option Addr) (c c' cn : Nat) (g : GraphD) (n : List Int) (w : World) (hG : GraphAt w A c A' c' g) (hV : Valid g) (hN : IntsAt w An cn n) (hn : n.length = 2) (ht : ITab w) :
  Calls Tryz.prog 67 #[gV A c A' c' g, .slice An n.length cn] w fun e w' => e = .returned (.string (bs (ansFew g n))) ∧ (ansFew g n).length ≤ 100000 ∧ Below w.heap.size w w' := by
 obtain ⟨x, y, rfl⟩ := two_of hn
 obtain ⟨b, o, rfl, hb0, x0, x1⟩ := hN.two
 have HG := Lib.hid hG; have HT := Lib.hid ht; have HV := Lib.hid hV
 clear hG ht hV hN hn
 go_enter Tryz.func67, Tryz.ntmps67
 go_wp2_with fail
 have BG := Blk.new w 68 (gC A c A' c' g)
 have hwq := ext_alloc (Below.refl w.heap.size w) (Obj.cells (gC A c A' c' g) 68)
 change Code.wp _ _ _ _ (w.alloc (Obj.cells (gC A c A' c' g) 68))
 obtain ⟨wq, hq⟩ : ∃ wq, w.alloc (Obj.cells (gC A c A' c' g) 68) = wq := ⟨_, rfl⟩
 rw [hq] at BG hwq ⊢
 obtain ⟨S1, hSS⟩ : ∃ S1 : World → Prop, Hid (S1 = fun w' => w'.cell? ⟨w.heap.size, 0, none⟩ = some (.int .i64 g.h) ∧ w'.cell? ⟨w.heap.size, 1, none⟩ = some (.slice A g.lives.length c) ∧ w'.cell? ⟨w.heap.size, 2, none⟩ = some (.slice A' g.edges.length c') ∧ w'.cell? ⟨b, o, none⟩ = some (.int .i64 x) ∧ w'.cell? ⟨b, o + 1, none⟩ = some (.int .i64 y)) := ⟨_, Lib.hid rfl⟩
 have HX : Hid (w.cell? ⟨b, o, none⟩ = some (.int .i64 x) ∧ w.cell? ⟨b, o + 1, none⟩ = some (.int .i64 y)) := Lib.hid ⟨x0, x1⟩
 have HKS : Hid (∀ w', Below wq.heap.size wq w' → S1 w') := Lib.hid fun w' h => by
  have hB := BG.ext h
  have hw := ext_trans hwq h
  rw [hSS.out]
  exact ⟨hB.cell 0, hB.cell 1, hB.cell 2, (hw.cell (p := ⟨b, o, none⟩) hb0).trans HX.out.1, (hw.cell (p := ⟨b, o + 1, none⟩) hb0).trans HX.out.2⟩
 have HWQ := Lib.hid hwq
 have hd0 := below_drew (Below.refl wq.heap.size wq)
 have hS0 : S1 wq.drew := HKS.out _ hd0
 clear x0 x1 BG hwq hq
 refine anyH_begin S1 (by kernel_rfl) ?_
 refine tH 0 ?_ ?_ <| tH 1 ?_ ?_ <| tH 2 ?_ ?_ <| tH 3 ?_ ?_ <| tH 4 ?_ ?_ <| tH 5 ?_ ?_ <| tH 6 ?_ ?_ ?_
 iterate 7
  rotate_left
  ·intro w hSw; rw [hSS.out] at hSw; obtain ⟨sw0, sw1, sw2, sw3, sw4⟩ := hSw; (try simp only [pS]); go_simp; try with_reducible rfl
 try simp only [pS]
 refine anyH_one (i := 7) rfl (by kernel_rfl) fun K hK => ?_
 go_wp2_with fail
 refine (hopsum_any A A' c c' g x y _ (HG.out.ext (ext_trans HWQ.out hd0))).mono ?_
 rintro e w3 ⟨l, Al, cl, hl, rfl, hS, hml, hb3⟩
 have hb3 : Below wq.heap.size wq w3 := ext_trans hd0 hb3
 have hS3 := HKS.out _ hb3
 have HL : Hid (CostsOut g lOne x y l) := Lib.hid hl
 have HLN : Hid ((toldT l (placeErr g x y)).length ≤ 100000) := Lib.hid (by
  have h1 := toldT_len (ints_any hS hml).i64 (e := placeErr g x y) (by have := placeErr_range g x y; exact small_i64 (by omega) (by omega))
  have h2 := costs_len hl
  have h3 := HV.out.nl
  omega)
 refine hK.out _ _ ⟨hS3, ?_⟩
 clear hK K hS0
 try simp only [pS]
 refine tH 8 ?_ ?_ <| tH 9 ?_ ?_ ?_
 iterate 2
  rotate_left
  ·intro w hSw; rw [hSS.out] at hSw; obtain ⟨sw0, sw1, sw2, sw3, sw4⟩ := hSw; (try simp only [pS]); go_simp; try with_reducible rfl
 try simp only [pS]
 refine anyH_one (i := 10) rfl (by kernel_rfl) fun K hK => ?_
 go_wp2_with fail
 refine (told_any Al l.length cl l (placeErr g x y) w3 (ints_any hS hml) (by have := costs_len HL.out; have := HV.out.nl; omega) (by have := placeErr_range g x y; exact small_i64 (by omega) (by omega)) (HT.out.ext (ext_trans HWQ.out hb3))).mono ?_
 rintro e w4 ⟨rfl, hb4⟩
 have hb4 := ext_trans hb3 hb4
 have hS4 := HKS.out _ hb4
 refine hK.out _ _ ⟨hS4, ?_⟩
 clear hK K hS3
 try simp only [pS]
 refine tH 11 ?_ ?_ ?_
 rotate_left
 ·intro w hSw; rw [hSS.out] at hSw; obtain ⟨sw0, sw1, sw2, sw3, sw4⟩ := hSw; (try simp only [pS]); go_simp; try with_reducible rfl
 try simp only [pS]
 refine wpAnyH_done (by kernel_rfl) ?_ _
 try simp only [pS]
 clear hS4
 go_wp2_with fail
 go_ret
 have hR : ansFew g [x, y] = toldT l (placeErr g x y) := by
  have h1 := costs_the HL.out
  show toldT (the (CostsOut g lOne x y)) (placeErr g x y) = _
  rw [h1]
 rw [hR]
 exact ⟨rfl, HLN.out, ext_trans HWQ.out hb4⟩
theorem ints_lit {w : World} {k : Nat} {l : List Int} (h : Blk w k 3 (l.map (Value.int .i64)).toArray) (hl : ∀ n, n ∈ l → I64 n) (hm : l.length ≤ maxLen) : IntsAt w (some ⟨k, 0, none⟩) l.length l := by
 refine ⟨Nat.le_refl _, hm, k, 0, fun i x hx => ?_⟩
 refine ⟨rfl, h.lt, ?_, hl x (List.mem_of_getElem? hx)⟩
 unfold cellIs
 have h1 := h.cell (0 + i * 1)
 rw [h1]
 simp [hx]
set_option maxRecDepth 100000 in
set_option maxHeartbeats 4000000 in
theorem fast_then (A A' An : Option Addr) (c c' cn : Nat) (g : GraphD) (n : List Int) (w : World) (hG : GraphAt w A c A' c' g) (hV : Valid g) (hN : IntsAt w An cn n) (hn : n.length = 2) (ht : ITab w) :
  Calls Tryz.prog 69 #[gV A c A' c' g, .slice An n.length cn] w fun e w' => e = .returned (.string (bs (ansFast g n))) ∧ (ansFast g n).length ≤ 100000 ∧ Below w.heap.size w w' := by
 obtain ⟨x, y, rfl⟩ := two_of hn
 obtain ⟨b, o, rfl, hb0, x0, x1⟩ := hN.two
 have HG := Lib.hid hG; have HT := Lib.hid ht; have HV := Lib.hid hV
 clear hG ht hV hN hn
 go_enter Tryz.func69, Tryz.ntmps69
 go_wp2_with fail
 have BG := Blk.new w 68 (gC A c A' c' g)
 have hwq := ext_alloc (Below.refl w.heap.size w) (Obj.cells (gC A c A' c' g) 68)
 change Code.wp _ _ _ _ (w.alloc (Obj.cells (gC A c A' c' g) 68))
 obtain ⟨wq, hq⟩ : ∃ wq, w.alloc (Obj.cells (gC A c A' c' g) 68) = wq := ⟨_, rfl⟩
 rw [hq] at BG hwq ⊢
 obtain ⟨S1, hSS⟩ : ∃ S1 : World → Prop, Hid (S1 = fun w' => w'.cell? ⟨w.heap.size, 0, none⟩ = some (.int .i64 g.h) ∧ w'.cell? ⟨w.heap.size, 1, none⟩ = some (.slice A g.lives.length c) ∧ w'.cell? ⟨w.heap.size, 2, none⟩ = some (.slice A' g.edges.length c') ∧ w'.cell? ⟨b, o, none⟩ = some (.int .i64 x) ∧ w'.cell? ⟨b, o + 1, none⟩ = some (.int .i64 y)) := ⟨_, Lib.hid rfl⟩
 have HX : Hid (w.cell? ⟨b, o, none⟩ = some (.int .i64 x) ∧ w.cell? ⟨b, o + 1, none⟩ = some (.int .i64 y)) := Lib.hid ⟨x0, x1⟩
 have HKS : Hid (∀ w', Below wq.heap.size wq w' → S1 w') := Lib.hid fun w' h => by
  have hB := BG.ext h
  have hw := ext_trans hwq h
  rw [hSS.out]
  exact ⟨hB.cell 0, hB.cell 1, hB.cell 2, (hw.cell (p := ⟨b, o, none⟩) hb0).trans HX.out.1, (hw.cell (p := ⟨b, o + 1, none⟩) hb0).trans HX.out.2⟩
 have HWQ := Lib.hid hwq
 have hd0 := below_drew (Below.refl wq.heap.size wq)
 have hS0 : S1 wq.drew := HKS.out _ hd0
 clear x0 x1 BG hwq hq
 refine anyH_begin S1 (by kernel_rfl) ?_
 refine tH 0 ?_ ?_ <| tH 1 ?_ ?_ <| tH 2 ?_ ?_ <| tH 3 ?_ ?_ <| tH 4 ?_ ?_ <| tH 5 ?_ ?_ <| tH 6 ?_ ?_ ?_
 iterate 7
  rotate_left
  ·intro w hSw; rw [hSS.out] at hSw; obtain ⟨sw0, sw1, sw2, sw3, sw4⟩ := hSw; (try simp only [pS]); go_simp; try with_reducible rfl
 try simp only [pS]
 refine anyH_one (i := 7) rfl (by kernel_rfl) fun K hK => ?_
 go_wp2_with fail
 refine (fastest_any A A' c c' g x y _ (HG.out.ext (ext_trans HWQ.out hd0))).mono ?_
 rintro e w3 ⟨d, a, er, HF, rfl, hb3⟩
 have hb3 : Below wq.heap.size wq w3 := ext_trans hd0 hb3
 have hS3 := HKS.out _ hb3
 have HR : Hid ((∀ n, n ∈ [d, a] → I64 n) ∧ I64 er) := Lib.hid (by have h := fast_range HV.out HF.out; exact ⟨fun n hn => by simp at hn; rcases hn with rfl | rfl <;> first | exact h.1 | exact h.2.1, h.2.2⟩)
 refine hK.out _ _ ⟨hS3, ?_⟩
 clear hK K hS0
 try simp only [pS]
 refine tH 8 ?_ ?_ <| tH 9 ?_ ?_ <| tH 10 ?_ ?_ <| tH 11 ?_ ?_ <| tH 12 ?_ ?_ <| tH 13 ?_ ?_ <| tH 14 ?_ ?_ ?_
 iterate 7
  rotate_left
  ·intro w hSw; rw [hSS.out] at hSw; obtain ⟨sw0, sw1, sw2, sw3, sw4⟩ := hSw; (try simp only [pS]); go_simp; try with_reducible rfl
 try simp only [pS]
 refine wpAnyH_done (by kernel_rfl) ?_ _
 try simp only [pS]
 clear hS3
 have HTW := Lib.hid (HT.out.ext (ext_trans HWQ.out hb3))
 have BI := Blk.new w3 3 #[.int .i64 d, .int .i64 a]
 have htl := told_any (some ⟨w3.heap.size, 0, none⟩) 2 2 [d, a] er (w3.alloc (Obj.cells #[.int .i64 d, .int .i64 a] 3)) (ints_lit BI HR.out.1 (by unfold maxLen; simp)) (by simp) HR.out.2 (HTW.out.ext (ext_alloc (Below.refl _ _) _))
 have HTL := Lib.hid htl
 have hb4 := ext_alloc hb3 (Obj.cells #[.int .i64 d, .int .i64 a] 3)
 clear BI htl
 go_wp2_with fail
 refine HTL.out.mono ?_
 rintro e w4 ⟨rfl, hb5⟩
 go_wp2_with fail
 go_ret
 have hR : ansFast g [x, y] = toldT [d, a] er := by
  have h1 := fast_the HF.out
  show toldT [(fastF g x y).1, (fastF g x y).2.1] (fastF g x y).2.2 = _
  rw [h1]
 rw [hR]
 exact ⟨rfl, by have h9 := toldT_len HR.out.1 HR.out.2; simp only [List.length_cons, List.length_nil] at h9; omega, ext_trans HWQ.out (ext_trans hb4 hb5)⟩
set_option maxRecDepth 100000 in
set_option maxHeartbeats 4000000 in
theorem go_then (A A' An : Option Addr) (c c' cn : Nat) (g : GraphD) (n : List Int) (Ah : Option Addr) (ch gl : Nat) (h : List HopD) (w : World) (hG : GraphAt w A c A' c' g) (hgl : gl < w.heap.size ∧ w.cell? ⟨gl, 0, none⟩ = some (.slice Ah h.length ch)) (hH : h.length ≤ ch ∧ ch ≤ maxLen ∧ SlAt RHop 2 w Ah h) (hV : Valid g) (hN : IntsAt w An cn n) (hn : n.length = 2) (ht : ITab w) :
  Calls Tryz.prog 46 #[gV A c A' c' g, .slice An n.length cn, .pointer (some ⟨gl, 0, none⟩)] w fun e w' => e = .returned (.string (bs (ansGo h g n))) ∧ (ansGo h g n).length ≤ 100000 ∧ Below w.heap.size w w' := by
 obtain ⟨x, y, rfl⟩ := two_of hn
 obtain ⟨b, o, rfl, hb0, x0, x1⟩ := hN.two
 have HG := Lib.hid hG; have HT := Lib.hid ht; have HV := Lib.hid hV
 have HGL := Lib.hid hgl.2; have HH := Lib.hid hH
 clear hG ht hV hN hn hH
 go_enter Tryz.func46, Tryz.ntmps46
 go_wp2_with fail
 have BG := Blk.new w 68 (gC A c A' c' g)
 have hwq := ext_alloc (Below.refl w.heap.size w) (Obj.cells (gC A c A' c' g) 68)
 change Code.wp _ _ _ _ (w.alloc (Obj.cells (gC A c A' c' g) 68))
 obtain ⟨wq, hq⟩ : ∃ wq, w.alloc (Obj.cells (gC A c A' c' g) 68) = wq := ⟨_, rfl⟩
 rw [hq] at BG hwq ⊢
 obtain ⟨S1, hSS⟩ : ∃ S1 : World → Prop, Hid (S1 = fun w' => w'.cell? ⟨w.heap.size, 0, none⟩ = some (.int .i64 g.h) ∧ w'.cell? ⟨w.heap.size, 1, none⟩ = some (.slice A g.lives.length c) ∧ w'.cell? ⟨w.heap.size, 2, none⟩ = some (.slice A' g.edges.length c') ∧ w'.cell? ⟨b, o, none⟩ = some (.int .i64 x) ∧ w'.cell? ⟨b, o + 1, none⟩ = some (.int .i64 y) ∧ w'.cell? ⟨gl, 0, none⟩ = some (.slice Ah h.length ch)) := ⟨_, Lib.hid rfl⟩
 have HX : Hid (w.cell? ⟨b, o, none⟩ = some (.int .i64 x) ∧ w.cell? ⟨b, o + 1, none⟩ = some (.int .i64 y)) := Lib.hid ⟨x0, x1⟩
 have HKS : Hid (∀ w', Below wq.heap.size wq w' → S1 w') := Lib.hid fun w' h => by
  have hB := BG.ext h
  have hw := ext_trans hwq h
  rw [hSS.out]
  exact ⟨hB.cell 0, hB.cell 1, hB.cell 2, (hw.cell (p := ⟨b, o, none⟩) hb0).trans HX.out.1, (hw.cell (p := ⟨b, o + 1, none⟩) hb0).trans HX.out.2, (hw.cell (p := ⟨gl, 0, none⟩) hgl.1).trans HGL.out⟩
 have HWQ := Lib.hid hwq
 have hd0 := below_drew (Below.refl wq.heap.size wq)
 have hS0 : S1 wq.drew := HKS.out _ hd0
 clear x0 x1 BG hwq hq
 refine anyH_begin S1 (by kernel_rfl) ?_
 refine tH 0 ?_ ?_ <| tH 1 ?_ ?_ <| tH 2 ?_ ?_ <| tH 3 ?_ ?_ <| tH 4 ?_ ?_ <| tH 5 ?_ ?_ <| tH 6 ?_ ?_ <| tH 7 ?_ ?_ ?_
 iterate 8
  rotate_left
  ·intro w hSw; rw [hSS.out] at hSw; obtain ⟨sw0, sw1, sw2, sw3, sw4, sw5⟩ := hSw; (try simp only [pS]); go_simp; try with_reducible rfl
 try simp only [pS]
 refine anyH_one (i := 8) rfl (by kernel_rfl) fun K hK => ?_
 go_wp2_with fail
 refine (goAll_any A A' Ah c c' ch g x y h _ (HG.out.ext (ext_trans HWQ.out hd0)) (HH.out.2.2.ext RHop.stable (ext_trans HWQ.out hd0)) (Nat.le_trans HH.out.1 HH.out.2.1)).mono ?_
 rintro e w3 ⟨rfl, hb3⟩
 have hb3 : Below wq.heap.size wq w3 := ext_trans hd0 hb3
 have hS3 := HKS.out _ hb3
 have HR : Hid ((∀ n, n ∈ [(goR g x y h).1, (goR g x y h).2.1, (goR g x y h).2.2.1] → I64 n) ∧ I64 (goR g x y h).2.2.2) := Lib.hid (by have k := goR_range (v := x) (t := y) HV.out h; exact ⟨fun n hn => by simp at hn; rcases hn with rfl | rfl | rfl <;> first | exact k.1 | exact k.2.1 | exact k.2.2.1, k.2.2.2⟩)
 obtain ⟨r0, hr0⟩ : ∃ r, goR g x y h = r := ⟨_, rfl⟩
 rw [hr0] at HR ⊢
 have HRR := Lib.hid hr0
 obtain ⟨r1, r2, r3, r4⟩ := r0
 unfold goV
 simp only at HR ⊢
 clear hr0
 refine hK.out _ _ ⟨hS3, ?_⟩
 clear hK K hS0
 try simp only [pS]
 refine tH 9 ?_ ?_ <| tH 10 ?_ ?_ <| tH 11 ?_ ?_ <| tH 12 ?_ ?_ <| tH 13 ?_ ?_ <| tH 14 ?_ ?_ <| tH 15 ?_ ?_ <| tH 16 ?_ ?_ <| tH 17 ?_ ?_ ?_
 iterate 9
  rotate_left
  ·intro w hSw; rw [hSS.out] at hSw; obtain ⟨sw0, sw1, sw2, sw3, sw4, sw5⟩ := hSw; (try simp only [pS]); go_simp; try with_reducible rfl
 try simp only [pS]
 refine wpAnyH_done (by kernel_rfl) ?_ _
 try simp only [pS]
 clear hS3
 have HTW := Lib.hid (HT.out.ext (ext_trans HWQ.out hb3))
 have BI := Blk.new w3 3 #[.int .i64 r1, .int .i64 r2, .int .i64 r3]
 have htl := told_any (some ⟨w3.heap.size, 0, none⟩) 3 3 [r1, r2, r3] r4 (w3.alloc (Obj.cells #[.int .i64 r1, .int .i64 r2, .int .i64 r3] 3)) (ints_lit BI HR.out.1 (by unfold maxLen; simp)) (by simp) HR.out.2 (HTW.out.ext (ext_alloc (Below.refl _ _) _))
 have HTL := Lib.hid htl
 have hb4 := ext_alloc hb3 (Obj.cells #[.int .i64 r1, .int .i64 r2, .int .i64 r3] 3)
 clear BI htl
 go_wp2_with fail
 refine HTL.out.mono ?_
 rintro e w4 ⟨rfl, hb5⟩
 go_wp2_with fail
 go_ret
 have hR : ansGo h g [x, y] = toldT [r1, r2, r3] r4 := by
  show toldT [(goR g x y h).1, (goR g x y h).2.1, (goR g x y h).2.2.1] (goR g x y h).2.2.2 = _
  rw [HRR.out]
 rw [hR]
 exact ⟨rfl, by have h9 := toldT_len HR.out.1 HR.out.2; simp only [List.length_cons, List.length_nil] at h9; omega, ext_trans HWQ.out (ext_trans hb4 hb5)⟩
end Go.Proofs.YtjcimdpldlamfaaGreatDoor
/- The walk of desk.snapped. -/
namespace Go.Proofs.YtjcimdpldlamfaaGreatDoor
open Go.RowKit

set_option maxRecDepth 100000 in
set_option maxHeartbeats 4000000 in
theorem snapped_any (fs : Nat) (lb : Array Value) (tell : SnapD → List Int × Int) (A A' : Option Addr) (c c' : Nat) (g : GraphD) (t : Int) (w : World) (hG : GraphAt w A c A' c' g) (ht : ITab w) (eg : Enters Tryz.prog fs)
  (hs : ∀ W As cs Bs ds, Below w.heap.size w W → SnapAt W As cs Bs ds (atD g t) → Calls Tryz.prog fs (#[snapV As cs Bs ds (atD g t)] ++ lb) W (IntsOut (fun l => l = (tell (atD g t)).1 ∧ l.length ≤ 1000 ∧ I64 (tell (atD g t)).2) (tell (atD g t)).2 W)) :
  Calls Tryz.prog 52 #[gV A c A' c' g, .int .i64 t, .func (.func fs) #[] lb] w fun e w' => e = .returned (.string (bs (snapT g t tell))) ∧ (snapT g t tell).length ≤ 100000 ∧ Below w.heap.size w w' := by
 unfold Enters at eg
 have HG := Lib.hid hG; have HT := Lib.hid ht; have HS := Lib.hid hs
 have her := atErr_range g t
 clear hG ht hs
 go_enter Tryz.func52, Tryz.ntmps52
 go_wp2_with fail
 refine (at_any A A' c c' g t _ (HG.out.ext (by go_grown))).mono ?_
 rintro e w1 ⟨As, cs, Bs, ds, rfl, hSN, hb1⟩
 have hbw : Below w.heap.size w w1 := ext_trans (by go_grown) hb1
 have HSN := Lib.hid hSN
 clear hSN hb1
 by_cases h0 : atErr g t = 0
 case neg =>
  have hne : (atErr g t != 0) = true := by simp [h0]
  have HR : Hid (snapT g t tell = errT (atErr g t)) := Lib.hid (by unfold snapT; rw [if_neg h0])
  have HE : Hid (I64 (atErr g t)) := Lib.hid (small_i64 (by omega) (by omega))
  obtain ⟨er, hr⟩ : ∃ er, atErr g t = er := ⟨_, rfl⟩
  rw [hr] at hne HR HE ⊢
  have hb2 := ext_alloc hbw (Obj.cells #[.slice As (atD g t).alive.length cs, .slice Bs (atD g t).arcs.length ds] 86)
  have hf := failed_any er HE.out _ (HT.out.ext hb2)
  clear h0 her hr
  go_wp2_with fail
  refine hf.mono ?_
  rintro e w2 ⟨rfl, hb3⟩
  clear hf
  go_wp2_with fail
  go_ret
  exact ⟨by rw [HR.out]; rfl, by rw [HR.out]; exact err_short HE.out, ext_trans hb2 hb3⟩
 have HR : Hid (snapT g t tell = toldT (tell (atD g t)).1 (tell (atD g t)).2) := Lib.hid (by unfold snapT; rw [if_pos h0])
 rw [h0]
 have hb2 := ext_alloc hbw (Obj.cells #[.slice As (atD g t).alive.length cs, .slice Bs (atD g t).arcs.length ds] 86)
 have hcall := HS.out _ As cs Bs ds hb2 (HSN.out.1.ext (ext_alloc (Below.refl _ _) _))
 clear h0 her
 obtain ⟨l, hl⟩ : ∃ l, (tell (atD g t)).1 = l := ⟨_, rfl⟩
 obtain ⟨er, he⟩ : ∃ er, (tell (atD g t)).2 = er := ⟨_, rfl⟩
 rw [hl, he] at hcall HR
 clear hl he HS
 go_wp2_with fail
 refine hcall.mono ?_
 rintro e w2 ⟨l', Al, cl, ⟨hl', hl2, he2⟩, rfl, hS, hml, hb3⟩
 subst hl'
 have HL := Lib.hid (⟨hl2, he2⟩ : l'.length ≤ 1000 ∧ I64 er)
 have hb4 := ext_trans hb2 hb3
 have htl := told_any Al l'.length cl l' er w2 (ints_any hS hml) (by have := HL.out.1; omega) HL.out.2 (HT.out.ext hb4)
 have HTL := Lib.hid htl
 have HLN : Hid ((toldT l' er).length ≤ 100000) := Lib.hid (by have h1 := toldT_len (ints_any hS hml).i64 HL.out.2; have h2 := HL.out.1; omega)
 clear hcall hS hml hb3 htl hl2 he2
 go_wp2_with fail
 refine HTL.out.mono ?_
 rintro e w3 ⟨rfl, hb5⟩
 go_wp2_with fail
 go_ret
 exact ⟨by rw [HR.out]; rfl, by rw [HR.out]; exact HLN.out, ext_trans hb4 hb5⟩
end Go.Proofs.YtjcimdpldlamfaaGreatDoor
