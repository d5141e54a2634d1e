/- Several texts in one: GText, LawGraphSays. -/
import Derived.BigRegion
import Derived.Test.YtdpibehpmghghaaDoorBde7d5222215
import Derived.Test.YtdpibehpmghghaaDoorBd8e412ca21d
import Derived.Test.YtdpibehpmghghaaDoorBd5c4fc8f1ad
import Derived.Test.YtdpibehpmghghaaDoorBd2392e2ec37
import Derived.Test.YtdpibehpmghghaaDoorBda2f8cc1201
import Derived.Test.YtdpibehpmghghaaDoorBdc90c7fa7fc
/- The walk of the document's GraphText (printed by gengtext.py). -/
namespace Go.Proofs.YtdpibehpmghghaaDoor
open Go.RowKit Go.Shelf

set_option maxRecDepth 100000 in
set_option maxHeartbeats 8000000 in
theorem graphText_any (A A' : Option Addr) (c c' : Nat) (g : GraphD) (w : World) (hG : GraphAt w A c A' c' g) (hV : Valid g) (ht : ITab w) :
    Calls Tryd.prog 9 #[gV A c A' c' g] w fun e w' => e = .returned (.string (bs (graphT g))) ∧ Below w.heap.size w w' := by
  have HVV := Lib.hid hV
  have HSM := Lib.hid (valid_small hV)
  have hnl := hV.nl; have hne := hV.ne
  have m1 : g.lives.length ≤ 9223372036854775807 := Nat.le_trans hG.lc hG.cm
  have m2 : g.edges.length ≤ 9223372036854775807 := Nat.le_trans hG.lc' hG.cm'
  have hba := ext_alloc (ext_alloc (Below.refl _ w) (Obj.cells (gC A c A' c' g) 25)) (Obj.cells #[.int .i64 g.h] 3)
  have hIa : IntsAt ((w.alloc (Obj.cells (gC A c A' c' g) 25)).alloc (Obj.cells #[.int .i64 g.h] 3)) (some ⟨w.heap.size + 1, 0, none⟩) 1 [g.h] := ints_of_blk (Blk.new_ (by simp)) rfl rfl (by decide) (by simpa using HSM.out.1)
  have BG := (Blk.new w 25 (gC A c A' c' g)).alloc (Obj.cells #[.int .i64 g.h] 3)
  have HBA := Lib.hid hba; have HIA := Lib.hid hIa; have HBG := Lib.hid BG; have HTT := Lib.hid ht
  clear hba hIa BG ht
  go_enter Tryd.func9, Tryd.ntmps9
  go_wp2_with fail
  refine (rRow_any wTime _ 1 [g.h] _ HIA.out (by decide) (by simp) (HTT.out.ext HBA.out)).mono ?_
  rintro e w1 ⟨rfl, hb1⟩
  have BG1 := HBG.out.ext hb1
  have hb2 := ext_trans HBA.out hb1
  have hG1 := hG.ext hb2
  have HT1 := Lib.hid (HTT.out.ext hb2)
  have hgl : w.heap.size < w1.heap.size := BG1.lt
  clear hb1 hG
  go_wp2_with fail
  go_loopw [3, 4] (fun s kk wr => ∃ k : Nat, k ≤ g.lives.length ∧ kk = .int .i64 k ∧ s = .string (bs (lineT wTime [g.h] ++ (g.lives.take k).flatMap vertexT)) ∧ Below w1.heap.size w1 wr) (fun _ kk _ => g.lives.length - (intOf kk).toNat)
  case atStart => exact ⟨0, Nat.zero_le _, rfl, by simp, Below.refl _ _⟩
  case round =>
    obtain ⟨k, hk, rfl, rfl, hb⟩ := hrel
    have BG := BG1.ext hb
    obtain ⟨d1, d2, d3⟩ := BG.facts
    have hal := head_len HVV.out k 0
    by_cases hlt : k < g.lives.length
    case pos =>
      obtain ⟨x, hx⟩ := get_lt hlt
      obtain ⟨be, oe, hE⟩ := hG1.lives
      obtain ⟨rfl, hbe, ⟨⟨x0, x1⟩, _⟩⟩ := hE k x hx
      have x0' := x0.now hb
      have x1' := x1.now hb
      have hbe : be < wr.heap.size := Nat.lt_of_lt_of_le hbe hb.size
      have hxl := HSM.out.2.1 x (List.mem_of_getElem? hx)
      have HI2 : Hid (lineT wTime [g.h] ++ (g.lives.take (k + 1)).flatMap vertexT = lineT wTime [g.h] ++ (g.lives.take k).flatMap vertexT ++ vertexT x) := Lib.hid (by rw [flat_take hx, List.append_assoc])
      have hvl := vertexT_len hxl
      unfold vertexT at hvl
      obtain ⟨acc, hacc⟩ : ∃ acc, lineT wTime [g.h] ++ (g.lives.take k).flatMap vertexT = acc := ⟨_, rfl⟩
      rw [hacc] at HI2 ⊢
      rw [hacc, List.take_zero, List.flatMap_nil, List.append_nil] at hal
      have HXL := Lib.hid hxl
      clear hE hx x0 x1 hacc hxl
      go_wp2_with fail
      obtain ⟨S, hSS⟩ : ∃ S : World → Prop, Hid (S = fun w' => w'.cell? ⟨w.heap.size, 1, none⟩ = some (.slice (some ⟨be, oe, none⟩) g.lives.length c) ∧ w'.cell? ⟨be, oe + k * 2, none⟩ = some (.int .i64 x.f) ∧ w'.cell? ⟨be, oe + k * 2 + 1, none⟩ = some (.int .i64 x.t)) := ⟨_, Lib.hid rfl⟩
      have HSK : Hid (∀ w', Below wr.heap.size wr w' → S w') := Lib.hid fun w' hb' => by rw [hSS.out]; exact ⟨(BG.ext hb').cell 1, (hb'.cell (p := ⟨be, oe + k * 2, none⟩) hbe).trans x0', (hb'.cell (p := ⟨be, oe + k * 2 + 1, none⟩) hbe).trans x1'⟩
      have hS0 : S wr.drew := HSK.out _ (below_drew (Below.refl _ wr))
      refine WpN.begin (S := S) 16 (by kernel_rfl) ?_
      refine WpN.takeD (i := 0) (v := ?_) rfl rfl (by kernel_rfl) (fun _ _ _ h => h) (Or.inl ⟨by rfl, ?_⟩) (by assumption) ?_
      rotate_left
      · intro w hSw; rw [hSS.out] at hSw; obtain ⟨sw0, sw1, sw2⟩ := hSw; go_simp; try with_reducible rfl
      try simp only [Act.put, List.setIfInBounds_toArray, List.set_cons_zero, List.set_cons_succ]
      refine WpN.takeD (i := 1) (v := ?_) rfl rfl (by kernel_rfl) (fun _ _ _ h => h) (Or.inl ⟨by rfl, ?_⟩) (by assumption) ?_
      rotate_left
      · intro w hSw; rw [hSS.out] at hSw; obtain ⟨sw0, sw1, sw2⟩ := hSw; go_simp; try with_reducible rfl
      try simp only [Act.put, List.setIfInBounds_toArray, List.set_cons_zero, List.set_cons_succ]
      refine WpN.takeD (i := 2) (v := ?_) rfl rfl (by kernel_rfl) (fun _ _ _ h => h) (Or.inl ⟨by rfl, ?_⟩) (by assumption) ?_
      rotate_left
      · intro w hSw; rw [hSS.out] at hSw; obtain ⟨sw0, sw1, sw2⟩ := hSw; go_simp; try with_reducible rfl
      try simp only [Act.put, List.setIfInBounds_toArray, List.set_cons_zero, List.set_cons_succ]
      refine WpN.takeD (i := 3) (v := ?_) rfl rfl (by kernel_rfl) (fun _ _ _ h => h) (Or.inl ⟨by rfl, ?_⟩) (by assumption) ?_
      rotate_left
      · intro w hSw; rw [hSS.out] at hSw; obtain ⟨sw0, sw1, sw2⟩ := hSw; go_simp; try with_reducible rfl
      try simp only [Act.put, List.setIfInBounds_toArray, List.set_cons_zero, List.set_cons_succ]
      refine WpN.takeD (i := 4) (v := ?_) rfl rfl (by kernel_rfl) (fun _ _ _ h => h) (Or.inl ⟨by rfl, ?_⟩) (by assumption) ?_
      rotate_left
      · intro w hSw; rw [hSS.out] at hSw; obtain ⟨sw0, sw1, sw2⟩ := hSw; go_simp; try with_reducible rfl
      try simp only [Act.put, List.setIfInBounds_toArray, List.set_cons_zero, List.set_cons_succ]
      refine WpN.takeD (i := 5) (v := ?_) rfl rfl (by kernel_rfl) (fun _ _ _ h => h) (Or.inl ⟨by rfl, ?_⟩) (by assumption) ?_
      rotate_left
      · intro w hSw; rw [hSS.out] at hSw; obtain ⟨sw0, sw1, sw2⟩ := hSw; go_simp; try with_reducible rfl
      try simp only [Act.put, List.setIfInBounds_toArray, List.set_cons_zero, List.set_cons_succ]
      refine WpN.takeD (i := 6) (v := ?_) rfl rfl (by kernel_rfl) (fun _ _ _ h => h) (Or.inl ⟨by rfl, ?_⟩) (by assumption) ?_
      rotate_left
      · intro w hSw; rw [hSS.out] at hSw; obtain ⟨sw0, sw1, sw2⟩ := hSw; go_simp; try with_reducible rfl
      try simp only [Act.put, List.setIfInBounds_toArray, List.set_cons_zero, List.set_cons_succ]
      refine WpN.takeD (i := 7) (v := ?_) rfl rfl (by kernel_rfl) (fun _ _ _ h => h) (Or.inl ⟨by rfl, ?_⟩) (by assumption) ?_
      rotate_left
      · intro w hSw; rw [hSS.out] at hSw; obtain ⟨sw0, sw1, sw2⟩ := hSw; go_simp; try with_reducible rfl
      try simp only [Act.put, List.setIfInBounds_toArray, List.set_cons_zero, List.set_cons_succ]
      refine WpN.takeD (i := 8) (v := ?_) rfl rfl (by kernel_rfl) (fun _ _ _ h => h) (Or.inl ⟨by rfl, ?_⟩) (by assumption) ?_
      rotate_left
      · intro w hSw; rw [hSS.out] at hSw; obtain ⟨sw0, sw1, sw2⟩ := hSw; go_simp; try with_reducible rfl
      try simp only [Act.put, List.setIfInBounds_toArray, List.set_cons_zero, List.set_cons_succ]
      refine WpN.takeD (i := 9) (v := ?_) rfl rfl (by kernel_rfl) (fun _ _ _ h => h) (Or.inl ⟨by rfl, ?_⟩) (by assumption) ?_
      rotate_left
      · intro w hSw; rw [hSS.out] at hSw; obtain ⟨sw0, sw1, sw2⟩ := hSw; go_simp; try with_reducible rfl
      try simp only [Act.put, List.setIfInBounds_toArray, List.set_cons_zero, List.set_cons_succ]
      refine WpN.takeD (i := 10) (v := ?_) rfl rfl (by kernel_rfl) (fun _ _ _ h => h) (Or.inl ⟨by rfl, ?_⟩) (by assumption) ?_
      rotate_left
      · intro w hSw; rw [hSS.out] at hSw; obtain ⟨sw0, sw1, sw2⟩ := hSw; go_simp; try with_reducible rfl
      try simp only [Act.put, List.setIfInBounds_toArray, List.set_cons_zero, List.set_cons_succ]
      refine WpN.takeD (i := 11) (v := ?_) rfl rfl (by kernel_rfl) (fun _ _ _ h => h) (Or.inl ⟨by rfl, ?_⟩) (by assumption) ?_
      rotate_left
      · intro w hSw; rw [hSS.out] at hSw; obtain ⟨sw0, sw1, sw2⟩ := hSw; go_simp; try with_reducible rfl
      try simp only [Act.put, List.setIfInBounds_toArray, List.set_cons_zero, List.set_cons_succ]
      refine WpN.takeD (i := 12) (v := ?_) rfl rfl (by kernel_rfl) (fun _ _ _ h => h) (Or.inl ⟨by rfl, ?_⟩) (by assumption) ?_
      rotate_left
      · intro w hSw; rw [hSS.out] at hSw; obtain ⟨sw0, sw1, sw2⟩ := hSw; go_simp; try with_reducible rfl
      try simp only [Act.put, List.setIfInBounds_toArray, List.set_cons_zero, List.set_cons_succ]
      refine WpN.one (i := 13) rfl (by kernel_rfl) fun K hK => ?_
      go_wp2_with fail
      have hba : Below wr.heap.size wr (wr.alloc (Obj.cells #[.int .i64 x.f, .int .i64 x.t] 3)).drew := below_drew (ext_alloc (Below.refl _ wr) _)
      have hS1 := HSK.out _ hba
      have hIa : IntsAt (wr.alloc (Obj.cells #[.int .i64 x.f, .int .i64 x.t] 3)).drew (some ⟨wr.heap.size, 0, none⟩) 2 [x.f, x.t] := ints_of_blk (Blk.new wr _ _).drew rfl rfl (by decide) (by simpa using HXL.out)
      refine hK.out _ _ ⟨fun _ => hS1, ?_⟩
      clear hK K
      refine WpN.one (i := 14) rfl (by kernel_rfl) fun K hK => ?_
      go_wp2_with fail
      refine (rRow_any wVertex _ 2 [x.f, x.t] _ hIa (by decide) (by simp) ((HT1.out.ext hb).ext hba)).mono ?_
      rintro e w2 ⟨rfl, hbl⟩
      have hba := ext_trans hba hbl
      have hS2 := HSK.out _ hba
      go_wp2_with fail
      refine hK.out _ _ ⟨fun _ => hS2, ?_⟩
      clear hK K
      refine WpN.one (i := 15) rfl (by kernel_rfl) fun K hK => ?_
      go_wp2_with fail
      refine hK.out _ _ ⟨fun _ => hS2, ?_⟩
      clear hK K
      refine WpN.one (i := 16) rfl (by kernel_rfl) fun K hK => ?_
      go_wp2_with fail
      refine hK.out _ _ ⟨fun h => absurd h (by decide), ?_⟩
      refine WpN.done (by kernel_rfl) ?_ _
      clear hK K hSS hS0 hS1 hS2 hIa hbl HSK
      go_wp2_with fail
      go_roundw
      case rel => exact ⟨k + 1, by omega, by go_num, by rw [HI2.out]; rfl, ext_trans hb hba⟩
      case measure => simp [intOf]; omega
    case neg =>
      have HI3 : Hid (lineT wTime [g.h] ++ (g.lives.take k).flatMap vertexT = lineT wTime [g.h] ++ g.lives.flatMap vertexT ++ (g.edges.take 0).flatMap edgeT) := Lib.hid (by rw [List.take_of_length_le (by omega)]; simp)
      rw [HI3.out]
      clear hal
      go_wp2_with fail
      go_loopw [3, 5] (fun s jj wr => ∃ j : Nat, j ≤ g.edges.length ∧ jj = .int .i64 j ∧ s = .string (bs (lineT wTime [g.h] ++ g.lives.flatMap vertexT ++ (g.edges.take j).flatMap edgeT)) ∧ Below w1.heap.size w1 wr) (fun _ jj _ => g.edges.length - (intOf jj).toNat)
      case atStart => exact ⟨0, Nat.zero_le _, rfl, rfl, hb⟩
      case round =>
        clear hb BG d1 d2 d3
        obtain ⟨j, hj, rfl, rfl, hb⟩ := hrel
        have BG := BG1.ext hb
        obtain ⟨d1, d2, d3⟩ := BG.facts
        have hal := head_len HVV.out g.lives.length j
        rw [List.take_length] at hal
        by_cases hltj : j < g.edges.length
        case neg =>
          have HE : Hid (lineT wTime [g.h] ++ g.lives.flatMap vertexT ++ (g.edges.take j).flatMap edgeT = graphT g) := Lib.hid (by rw [List.take_of_length_le (by omega)]; rfl)
          rw [HE.out]
          clear hal
          go_wp2_with fail
          refine bodyPost_ret (v := .string (bs (graphT g))) (by simp [results, Tryd.results9]) rfl ?_
          exact ⟨rfl, ext_trans hb2 hb⟩
        case pos =>
          obtain ⟨x, hx⟩ := get_lt hltj
          have hxm := List.mem_of_getElem? hx
          obtain ⟨be, oe, hE⟩ := hG1.edges
          obtain ⟨rfl, hbe0, ⟨⟨x0, x1, L, cl, x2, hl1, hl2, hL⟩, _⟩⟩ := hE j x hx
          have x0' := x0.now hb
          have x1' := x1.now hb
          have X2 := Lib.hid x2
          have hbe : be < wr.heap.size := Nat.lt_of_lt_of_le hbe0 hb.size
          have hxe := HSM.out.2.2 x hxm
          have h6 := hxe.2.1
          have hel := edgeL_len hxe.1
          have HLL := Lib.hid (fun i => legs_len HVV.out hxm i)
          have HXE := Lib.hid hxe
          have HI2 : Hid (lineT wTime [g.h] ++ g.lives.flatMap vertexT ++ (g.edges.take (j + 1)).flatMap edgeT = lineT wTime [g.h] ++ g.lives.flatMap vertexT ++ (g.edges.take j).flatMap edgeT ++ (lineT wEdge [x.a, x.b] ++ (x.legs.take x.legs.length).flatMap legT)) := Lib.hid (by rw [flat_take hx, List.take_length, ← List.append_assoc]; rfl)
          obtain ⟨acc, hacc⟩ : ∃ acc, lineT wTime [g.h] ++ g.lives.flatMap vertexT ++ (g.edges.take j).flatMap edgeT = acc := ⟨_, rfl⟩
          rw [hacc] at HI2 hal ⊢
          clear hE hx x0 x1 hacc hxm hxe
          go_wp2_with fail
          obtain ⟨S, hSS⟩ : ∃ S : World → Prop, Hid (S = fun w' => w'.cell? ⟨w.heap.size, 2, none⟩ = some (.slice (some ⟨be, oe, none⟩) g.edges.length c') ∧ w'.cell? ⟨be, oe + j * 3, none⟩ = some (.int .i64 x.a) ∧ w'.cell? ⟨be, oe + j * 3 + 1, none⟩ = some (.int .i64 x.b)) := ⟨_, Lib.hid rfl⟩
          have HSK : Hid (∀ w', Below wr.heap.size wr w' → S w') := Lib.hid fun w' hb' => by rw [hSS.out]; exact ⟨(BG.ext hb').cell 2, (hb'.cell (p := ⟨be, oe + j * 3, none⟩) hbe).trans x0', (hb'.cell (p := ⟨be, oe + j * 3 + 1, none⟩) hbe).trans x1'⟩
          have hS0 : S wr.drew := HSK.out _ (below_drew (Below.refl _ wr))
          refine WpN.begin (S := S) 16 (by kernel_rfl) ?_
          refine WpN.takeD (i := 0) (v := ?_) rfl rfl (by kernel_rfl) (fun _ _ _ h => h) (Or.inl ⟨by rfl, ?_⟩) (by assumption) ?_
          rotate_left
          · intro w hSw; rw [hSS.out] at hSw; obtain ⟨sw0, sw1, sw2⟩ := hSw; go_simp; try with_reducible rfl
          try simp only [Act.put, List.setIfInBounds_toArray, List.set_cons_zero, List.set_cons_succ]
          refine WpN.takeD (i := 1) (v := ?_) rfl rfl (by kernel_rfl) (fun _ _ _ h => h) (Or.inl ⟨by rfl, ?_⟩) (by assumption) ?_
          rotate_left
          · intro w hSw; rw [hSS.out] at hSw; obtain ⟨sw0, sw1, sw2⟩ := hSw; go_simp; try with_reducible rfl
          try simp only [Act.put, List.setIfInBounds_toArray, List.set_cons_zero, List.set_cons_succ]
          refine WpN.takeD (i := 2) (v := ?_) rfl rfl (by kernel_rfl) (fun _ _ _ h => h) (Or.inl ⟨by rfl, ?_⟩) (by assumption) ?_
          rotate_left
          · intro w hSw; rw [hSS.out] at hSw; obtain ⟨sw0, sw1, sw2⟩ := hSw; go_simp; try with_reducible rfl
          try simp only [Act.put, List.setIfInBounds_toArray, List.set_cons_zero, List.set_cons_succ]
          refine WpN.takeD (i := 3) (v := ?_) rfl rfl (by kernel_rfl) (fun _ _ _ h => h) (Or.inl ⟨by rfl, ?_⟩) (by assumption) ?_
          rotate_left
          · intro w hSw; rw [hSS.out] at hSw; obtain ⟨sw0, sw1, sw2⟩ := hSw; go_simp; try with_reducible rfl
          try simp only [Act.put, List.setIfInBounds_toArray, List.set_cons_zero, List.set_cons_succ]
          refine WpN.takeD (i := 4) (v := ?_) rfl rfl (by kernel_rfl) (fun _ _ _ h => h) (Or.inl ⟨by rfl, ?_⟩) (by assumption) ?_
          rotate_left
          · intro w hSw; rw [hSS.out] at hSw; obtain ⟨sw0, sw1, sw2⟩ := hSw; go_simp; try with_reducible rfl
          try simp only [Act.put, List.setIfInBounds_toArray, List.set_cons_zero, List.set_cons_succ]
          refine WpN.takeD (i := 5) (v := ?_) rfl rfl (by kernel_rfl) (fun _ _ _ h => h) (Or.inl ⟨by rfl, ?_⟩) (by assumption) ?_
          rotate_left
          · intro w hSw; rw [hSS.out] at hSw; obtain ⟨sw0, sw1, sw2⟩ := hSw; go_simp; try with_reducible rfl
          try simp only [Act.put, List.setIfInBounds_toArray, List.set_cons_zero, List.set_cons_succ]
          refine WpN.takeD (i := 6) (v := ?_) rfl rfl (by kernel_rfl) (fun _ _ _ h => h) (Or.inl ⟨by rfl, ?_⟩) (by assumption) ?_
          rotate_left
          · intro w hSw; rw [hSS.out] at hSw; obtain ⟨sw0, sw1, sw2⟩ := hSw; go_simp; try with_reducible rfl
          try simp only [Act.put, List.setIfInBounds_toArray, List.set_cons_zero, List.set_cons_succ]
          refine WpN.takeD (i := 7) (v := ?_) rfl rfl (by kernel_rfl) (fun _ _ _ h => h) (Or.inl ⟨by rfl, ?_⟩) (by assumption) ?_
          rotate_left
          · intro w hSw; rw [hSS.out] at hSw; obtain ⟨sw0, sw1, sw2⟩ := hSw; go_simp; try with_reducible rfl
          try simp only [Act.put, List.setIfInBounds_toArray, List.set_cons_zero, List.set_cons_succ]
          refine WpN.takeD (i := 8) (v := ?_) rfl rfl (by kernel_rfl) (fun _ _ _ h => h) (Or.inl ⟨by rfl, ?_⟩) (by assumption) ?_
          rotate_left
          · intro w hSw; rw [hSS.out] at hSw; obtain ⟨sw0, sw1, sw2⟩ := hSw; go_simp; try with_reducible rfl
          try simp only [Act.put, List.setIfInBounds_toArray, List.set_cons_zero, List.set_cons_succ]
          refine WpN.takeD (i := 9) (v := ?_) rfl rfl (by kernel_rfl) (fun _ _ _ h => h) (Or.inl ⟨by rfl, ?_⟩) (by assumption) ?_
          rotate_left
          · intro w hSw; rw [hSS.out] at hSw; obtain ⟨sw0, sw1, sw2⟩ := hSw; go_simp; try with_reducible rfl
          try simp only [Act.put, List.setIfInBounds_toArray, List.set_cons_zero, List.set_cons_succ]
          refine WpN.takeD (i := 10) (v := ?_) rfl rfl (by kernel_rfl) (fun _ _ _ h => h) (Or.inl ⟨by rfl, ?_⟩) (by assumption) ?_
          rotate_left
          · intro w hSw; rw [hSS.out] at hSw; obtain ⟨sw0, sw1, sw2⟩ := hSw; go_simp; try with_reducible rfl
          try simp only [Act.put, List.setIfInBounds_toArray, List.set_cons_zero, List.set_cons_succ]
          refine WpN.takeD (i := 11) (v := ?_) rfl rfl (by kernel_rfl) (fun _ _ _ h => h) (Or.inl ⟨by rfl, ?_⟩) (by assumption) ?_
          rotate_left
          · intro w hSw; rw [hSS.out] at hSw; obtain ⟨sw0, sw1, sw2⟩ := hSw; go_simp; try with_reducible rfl
          try simp only [Act.put, List.setIfInBounds_toArray, List.set_cons_zero, List.set_cons_succ]
          refine WpN.takeD (i := 12) (v := ?_) rfl rfl (by kernel_rfl) (fun _ _ _ h => h) (Or.inl ⟨by rfl, ?_⟩) (by assumption) ?_
          rotate_left
          · intro w hSw; rw [hSS.out] at hSw; obtain ⟨sw0, sw1, sw2⟩ := hSw; go_simp; try with_reducible rfl
          try simp only [Act.put, List.setIfInBounds_toArray, List.set_cons_zero, List.set_cons_succ]
          refine WpN.one (i := 13) rfl (by kernel_rfl) fun K hK => ?_
          go_wp2_with fail
          have hba : Below wr.heap.size wr (wr.alloc (Obj.cells #[.int .i64 x.a, .int .i64 x.b] 3)).drew := below_drew (ext_alloc (Below.refl _ wr) _)
          have hS1 := HSK.out _ hba
          have hIa : IntsAt (wr.alloc (Obj.cells #[.int .i64 x.a, .int .i64 x.b] 3)).drew (some ⟨wr.heap.size, 0, none⟩) 2 [x.a, x.b] := ints_of_blk (Blk.new wr _ _).drew rfl rfl (by decide) (by simpa using HXE.out.1)
          refine hK.out _ _ ⟨fun _ => hS1, ?_⟩
          clear hK K
          refine WpN.one (i := 14) rfl (by kernel_rfl) fun K hK => ?_
          go_wp2_with fail
          refine (rRow_any wEdge _ 2 [x.a, x.b] _ hIa (by decide) (by simp) ((HT1.out.ext hb).ext hba)).mono ?_
          rintro e w2 ⟨rfl, hbl⟩
          have hba := ext_trans hba hbl
          have hS2 := HSK.out _ hba
          go_wp2_with fail
          refine hK.out _ _ ⟨fun _ => hS2, ?_⟩
          clear hK K
          refine WpN.one (i := 15) rfl (by kernel_rfl) fun K hK => ?_
          go_wp2_with fail
          refine hK.out _ _ ⟨fun _ => hS2, ?_⟩
          clear hK K
          refine WpN.one (i := 16) rfl (by kernel_rfl) fun K hK => ?_
          go_wp2_with fail
          refine hK.out _ _ ⟨fun h => absurd h (by decide), ?_⟩
          refine WpN.done (by kernel_rfl) ?_ _
          clear hK K hSS hS0 hS1 hS2 hIa hbl HSK
          go_wp2_with fail
          have hb := ext_trans hb hba
          clear hba x0' x1' BG d1 d2 d3
          have HI4 : Hid (acc ++ lineT wEdge [x.a, x.b] = acc ++ (lineT wEdge [x.a, x.b] ++ (x.legs.take 0).flatMap legT)) := Lib.hid (by simp)
          go_loopw [3, 6] (fun s ii wr => ∃ i : Nat, i ≤ x.legs.length ∧ ii = .int .i64 i ∧ s = .string (bs (acc ++ (lineT wEdge [x.a, x.b] ++ (x.legs.take i).flatMap legT))) ∧ Below w1.heap.size w1 wr) (fun _ ii _ => x.legs.length - (intOf ii).toNat)
          case atStart => exact ⟨0, Nat.zero_le _, rfl, by rw [← HI4.out]; rfl, hb⟩
          case round =>
            clear hb
            obtain ⟨i, hi', rfl, rfl, hb⟩ := hrel
            have BG := BG1.ext hb
            obtain ⟨d1, d2, d3⟩ := BG.facts
            have x2' := X2.out.now hb
            have hal2 := HLL.out i
            by_cases hlti : i < x.legs.length
            case neg =>
              obtain rfl : i = x.legs.length := by omega
              go_wp2_with fail
              go_roundw
              case rel => exact ⟨j + 1, by omega, by go_num, by rw [HI2.out], hb⟩
              case measure => simp [intOf]; omega
            case pos =>
            obtain ⟨lg, hlg⟩ := get_lt hlti
            obtain ⟨bl, ol, hLL⟩ := hL
            obtain ⟨rfl, hbl0, ⟨⟨l0, l1, l2, l3⟩, _⟩⟩ := hLL i lg hlg
            have l0' := l0.now hb
            have l1' := l1.now hb
            have l2' := l2.now hb
            have l3' := l3.now hb
            have hlo := HXE.out.2.2 lg (List.mem_of_getElem? hlg)
            have hle := legT_len hlo
            unfold legT at hle
            have HI5 : Hid (acc ++ (lineT wEdge [x.a, x.b] ++ (x.legs.take (i + 1)).flatMap legT) = acc ++ (lineT wEdge [x.a, x.b] ++ (x.legs.take i).flatMap legT) ++ legT lg) := Lib.hid (by rw [flat_take hlg]; simp only [List.append_assoc])
            obtain ⟨ac2, hac2⟩ : ∃ ac2, acc ++ (lineT wEdge [x.a, x.b] ++ (x.legs.take i).flatMap legT) = ac2 := ⟨_, rfl⟩
            have hal3 : ac2.length ≤ 40000 := by rw [← hac2, List.length_append]; omega
            rw [hac2] at HI5 ⊢
            clear hlg l0 l1 l2 l3 hac2 hal2
            obtain ⟨wo2, rfl⟩ : ∃ wo : World, wo = wr := ⟨_, rfl⟩
            go_wp2_with fail
            have hba := ext_alloc (ext_alloc (Below.refl _ wo2) (Obj.cells #[.int .i64 lg.f, .int .i64 lg.t, .int .i64 lg.time, .int .i64 lg.cost] 76)) (Obj.cells #[.int .i64 lg.f, .int .i64 lg.t, .int .i64 lg.time, .int .i64 lg.cost] 3)
            have hIa : IntsAt ((wo2.alloc (Obj.cells #[.int .i64 lg.f, .int .i64 lg.t, .int .i64 lg.time, .int .i64 lg.cost] 76)).alloc (Obj.cells #[.int .i64 lg.f, .int .i64 lg.t, .int .i64 lg.time, .int .i64 lg.cost] 3)) (some ⟨wo2.heap.size + 1, 0, none⟩) 4 [lg.f, lg.t, lg.time, lg.cost] := ints_of_blk (Blk.new_ (by simp)) rfl rfl (by decide) (by simpa using hlo)
            refine (rRow_any wLeg _ 4 [lg.f, lg.t, lg.time, lg.cost] _ hIa (by decide) (by simp) ((HT1.out.ext hb).ext hba)).mono ?_
            rintro e w4 ⟨rfl, hbl4⟩
            have hb5 := ext_trans hb (ext_trans hba hbl4)
            clear hIa hbl4
            go_wp2_with fail
            go_roundw
            case rel => exact ⟨i + 1, by omega, by go_num, by rw [HI5.out]; rfl, hb5⟩
            case measure => simp [intOf]; omega
end Go.Proofs.YtdpibehpmghghaaDoor
/- The law GraphSays. -/
namespace Go.Proofs.YtdpibehpmghghaaDoor
open Go.RowKit

theorem snap_equal1 (A B : Option Addr) (c d : Nat) (l : List Bool) (n : Nat) (w : World) (hn : l.length = n) (hA : SlAt RBool 1 w A l) (hB : SlAt RBool 1 w B l) (hl : n ≤ maxLen) :
    Calls Tryd.prog 15 #[.slice A n c, .slice B n d] w fun e w' => e = .returned (.bool true) ∧ Below w.heap.size w w' := by
  subst hn
  exact (equalBools_anyS A B c d l l w hA hB hl hl).mono fun _ _ ⟨h1, h2⟩ => ⟨by rw [h1]; simp, h2⟩
theorem snap_equal2 (A B : Option Addr) (c d : Nat) (l : List ArcD) (n : Nat) (w : World) (hn : l.length = n) (hA : SlAt RArc 3 w A l) (hB : SlAt RArc 3 w B l) (hl : n ≤ maxLen) :
    Calls Tryd.prog 16 #[.slice A n c, .slice B n d] w fun e w' => e = .returned (.bool true) ∧ Below w.heap.size w w' := by
  subst hn
  exact (equalArcs_any A B c d l l w hA hB hl hl).mono fun _ _ ⟨h1, h2⟩ => ⟨by rw [h1]; simp, h2⟩
set_option maxRecDepth 100000 in
set_option maxHeartbeats 4000000 in
theorem graphSays_calls (A A' : Option Addr) (c c' : Nat) (g : GraphD) {w : World} (hG : GraphAt w A c A' c' g) (t : Int) (ht : ITab w) :
    Calls Tryd.prog 3 #[gV A c A' c' g, .int .i64 t] w fun e w' => e = .returned (.bool true) ∧ Below w.heap.size w w' := by
  have HG := Lib.hid hG; have HT := Lib.hid ht
  have ms : (snapD g t).alive.length ≤ maxLen → True := fun _ => trivial
  clear hG ht ms
  by_cases h0 : graphErr g = 0
  case neg =>
    have HE : Hid (atErr g t = graphErr g) := Lib.hid (by unfold atErr; rw [if_neg h0])
    have HO : Hid (atD g t = ⟨[], []⟩) := Lib.hid (atD_no (by rw [HE.out]; exact h0))
    have HP : Hid ((if graphErr g = 0 then graphT g else []) = []) := Lib.hid (if_neg h0)
    have hn : (graphErr g == 0) = false := by simp [h0]
    obtain ⟨er, her⟩ : ∃ er, graphErr g = er := ⟨_, rfl⟩
    have HER := Lib.hid her
    rw [her] at hn
    clear h0 her
    go_enter Tryd.func3, Tryd.ntmps3
    go_wp2_with fail
    refine (refGraph_any A A' c c' g _ (HG.out.ext (by go_grown))).mono ?_
    rw [HER.out]
    rintro e w1 ⟨rfl, hb1⟩
    have hbw : Below w.heap.size w w1 := ext_trans (by go_grown) hb1
    obtain ⟨B0, c1, c2, c3⟩ := (Blk.new w 25 (gC A c A' c' g)).go hb1
    clear hb1
    go_wp2_with fail
    refine (print_any A A' c c' g _ (HG.out.ext hbw) (HT.out.ext hbw)).mono ?_
    rw [HER.out, ← HER.out, HP.out, HER.out]
    rintro e w2 ⟨rfl, hb2⟩
    obtain ⟨B0, c1, c2, c3⟩ := B0.go hb2
    have hbw := ext_trans hbw hb2
    clear hb2
    go_wp2_with fail
    refine (at_any A A' c c' g t _ (HG.out.ext hbw)).mono ?_
    unfold GAtOut
    rw [HE.out, HO.out, HER.out]
    rintro e w3 ⟨A1, d1, A2, d2, rfl, hS, hb3⟩
    obtain ⟨B0, c1, c2, c3⟩ := B0.go hb3
    have hbw := ext_trans hbw hb3
    clear hb3
    go_wp2_with fail
    refine (check_any A A' c c' g _ (HG.out.ext (ext_trans hbw (by go_grown)))).mono ?_
    rw [HER.out]
    rintro e w4 ⟨rfl, hb4⟩
    obtain ⟨b1, b2, b3, b4⟩ := Blk.go (g := w3.heap.size) (t := 34) (cs := #[.slice A1 0 d1, .slice A2 0 d2]) ((Blk.new w3 _ _).alloc _) hb4
    obtain ⟨b5, b6, b7, b8⟩ := Blk.go (g := w3.heap.size + 1) (t := 34) (cs := #[.slice none 0 0, .slice none 0 0]) (Blk.new_ (by simp)) hb4
    have hb5 : Below w3.heap.size w3 w4 := ext_trans (by go_grown) hb4
    have hbw := ext_trans hbw hb5
    go_wp2_with fail
    refine (snap_equal1 A1 none d1 0 [] 0 _ rfl (hS.1.alive.ext RBool.stable hb5) SlAt.nil (Nat.zero_le _)).mono ?_
    rintro e w5 ⟨rfl, hb6⟩
    obtain ⟨b1, b2, b3, b4⟩ := b1.go hb6
    obtain ⟨b5, b6, b7, b8⟩ := b5.go hb6
    have hb5 := ext_trans hb5 hb6
    have hbw := ext_trans hbw hb6
    clear hb6
    go_wp2_with fail
    refine (snap_equal2 A2 none d2 0 [] 0 _ rfl (hS.1.arcs.ext RArc.stable hb5) SlAt.nil (Nat.zero_le _)).mono ?_
    rintro e w6 ⟨rfl, hb6⟩
    have hbw := ext_trans hbw hb6
    go_wp2_with fail
    go_ret
    exact ⟨rfl, hbw⟩
  have HV := Lib.hid (valid_of h0)
  have H0 := Lib.hid h0
  have HP : Hid ((if graphErr g = 0 then graphT g else []) = graphT g) := Lib.hid (if_pos h0)
  have hh0 := HV.out.h0
  have hh1 := HV.out.h1
  clear h0
  by_cases hr : 0 ≤ t ∧ t ≤ g.h - 1
  case neg =>
    have HE : Hid (atErr g t = 1) := Lib.hid (by unfold atErr; rw [if_pos H0.out, if_neg hr])
    have HO : Hid (atD g t = ⟨[], []⟩) := Lib.hid (atD_no (by rw [HE.out]; decide))
    have HI : Hid (inB t 0 (g.h - 1) = false) := Lib.hid (inB_false' hr)
    clear hr
    go_enter Tryd.func3, Tryd.ntmps3
    go_wp2_with fail
    refine (refGraph_any A A' c c' g _ (HG.out.ext (by go_grown))).mono ?_
    rw [H0.out]
    rintro e w1 ⟨rfl, hb1⟩
    have hbw : Below w.heap.size w w1 := ext_trans (by go_grown) hb1
    obtain ⟨B0, c1, c2, c3⟩ := (Blk.new w 25 (gC A c A' c' g)).go hb1
    clear hb1
    go_wp2_with fail
    refine (graphText_any A A' c c' g _ (HG.out.ext hbw) HV.out (HT.out.ext hbw)).mono ?_
    rintro e w9 ⟨rfl, hb9⟩
    obtain ⟨B0, c1, c2, c3⟩ := B0.go hb9
    have hbw := ext_trans hbw hb9
    clear hb9
    go_wp2_with fail
    refine (print_any A A' c c' g _ (HG.out.ext hbw) (HT.out.ext hbw)).mono ?_
    rw [HP.out, H0.out]
    rintro e w2 ⟨rfl, hb2⟩
    obtain ⟨B0, c1, c2, c3⟩ := B0.go hb2
    have hbw := ext_trans hbw hb2
    clear hb2
    go_wp2_with fail
    refine (at_any A A' c c' g t _ (HG.out.ext hbw)).mono ?_
    unfold GAtOut
    rw [HE.out, HO.out]
    rintro e w3 ⟨A1, d1, A2, d2, rfl, hS, hb3⟩
    obtain ⟨B0, c1, c2, c3⟩ := B0.go hb3
    have hbw := ext_trans hbw hb3
    clear hb3
    go_wp2_with fail
    refine (in_any t 0 (g.h - 1) _).mono ?_
    rw [HI.out]
    rintro e w8 ⟨rfl, rfl⟩
    go_wp2_with fail
    refine (check_any A A' c c' g _ (HG.out.ext (ext_trans hbw (by go_grown)))).mono ?_
    rw [H0.out]
    rintro e w4 ⟨rfl, hb4⟩
    obtain ⟨b1, b2, b3, b4⟩ := Blk.go (g := w3.heap.size) (t := 34) (cs := #[.slice A1 0 d1, .slice A2 0 d2]) ((Blk.new w3 _ _).alloc _) hb4
    obtain ⟨b5, b6, b7, b8⟩ := Blk.go (g := w3.heap.size + 1) (t := 34) (cs := #[.slice none 0 0, .slice none 0 0]) (Blk.new_ (by simp)) hb4
    have hb5 : Below w3.heap.size w3 w4 := ext_trans (by go_grown) hb4
    have hbw := ext_trans hbw hb5
    go_wp2_with fail
    refine (snap_equal1 A1 none d1 0 [] 0 _ rfl (hS.1.alive.ext RBool.stable hb5) SlAt.nil (Nat.zero_le _)).mono ?_
    rintro e w5 ⟨rfl, hb6⟩
    obtain ⟨b1, b2, b3, b4⟩ := b1.go hb6
    obtain ⟨b5, b6, b7, b8⟩ := b5.go hb6
    have hb5 := ext_trans hb5 hb6
    have hbw := ext_trans hbw hb6
    clear hb6
    go_wp2_with fail
    refine (snap_equal2 A2 none d2 0 [] 0 _ rfl (hS.1.arcs.ext RArc.stable hb5) SlAt.nil (Nat.zero_le _)).mono ?_
    rintro e w6 ⟨rfl, hb6⟩
    have hbw := ext_trans hbw hb6
    go_wp2_with fail
    go_ret
    exact ⟨rfl, hbw⟩
  have HE : Hid (atErr g t = 0) := Lib.hid (by unfold atErr; rw [if_pos H0.out, if_pos hr])
  have HO : Hid (atD g t = snapD g t) := Lib.hid (atD_0 HE.out)
  have HI : Hid (inB t 0 (g.h - 1) = true) := Lib.hid (inB_true' hr)
  clear hr
  go_enter Tryd.func3, Tryd.ntmps3
  go_wp2_with fail
  refine (refGraph_any A A' c c' g _ (HG.out.ext (by go_grown))).mono ?_
  rw [H0.out]
  rintro e w1 ⟨rfl, hb1⟩
  have hbw : Below w.heap.size w w1 := ext_trans (by go_grown) hb1
  obtain ⟨B0, c1, c2, c3⟩ := (Blk.new w 25 (gC A c A' c' g)).go hb1
  clear hb1
  go_wp2_with fail
  refine (graphText_any A A' c c' g _ (HG.out.ext hbw) HV.out (HT.out.ext hbw)).mono ?_
  rintro e w9 ⟨rfl, hb9⟩
  obtain ⟨B0, c1, c2, c3⟩ := B0.go hb9
  have hbw := ext_trans hbw hb9
  clear hb9
  go_wp2_with fail
  refine (print_any A A' c c' g _ (HG.out.ext hbw) (HT.out.ext hbw)).mono ?_
  rw [HP.out, H0.out]
  rintro e w2 ⟨rfl, hb2⟩
  obtain ⟨B0, c1, c2, c3⟩ := B0.go hb2
  have hbw := ext_trans hbw hb2
  clear hb2
  go_wp2_with fail
  refine (at_any A A' c c' g t _ (HG.out.ext hbw)).mono ?_
  unfold GAtOut
  rw [HE.out, HO.out]
  rintro e w3 ⟨A1, d1, A2, d2, rfl, hS, hb3⟩
  obtain ⟨B0, c1, c2, c3⟩ := B0.go hb3
  have hbw := ext_trans hbw hb3
  clear hb3
  go_wp2_with fail
  refine (in_any t 0 (g.h - 1) _).mono ?_
  rw [HI.out]
  rintro e w8 ⟨rfl, rfl⟩
  go_wp2_with fail
  refine (snap_any A A' c c' g t _ (HG.out.ext (ext_trans hbw (by go_grown))) HV.out).mono ?_
  rintro e w7 ⟨A3, d3, A4, d4, rfl, hR, hb7⟩
  obtain ⟨b1, b2, b3, b4⟩ := Blk.go (g := w3.heap.size) (t := 34) (cs := #[.slice A1 (snapD g t).alive.length d1, .slice A2 (snapD g t).arcs.length d2]) ((Blk.new w3 _ _).alloc _) hb7
  obtain ⟨b5, b6, b7, b8⟩ := Blk.go (g := w3.heap.size + 1) (t := 34) (cs := #[.slice none 0 0, .slice none 0 0]) (Blk.new_ (by simp)) hb7
  have hb8 : Below w3.heap.size w3 w7 := ext_trans (by go_grown) hb7
  have hbw := ext_trans hbw hb8
  have hS := hS.ext hb8
  obtain ⟨B0, c1, c2, c3⟩ := B0.go hb8
  clear hb8 hb7
  have b5n : Blk ((w7.setCell ⟨w3.heap.size + 1, 0, none⟩ (.slice A3 (snapD g t).alive.length d3)).setCell ⟨w3.heap.size + 1, 1, none⟩ (.slice A4 (snapD g t).arcs.length d4)) (w3.heap.size + 1) 34 #[.slice A3 (snapD g t).alive.length d3, .slice A4 (snapD g t).arcs.length d4] := by
    simpa using (b5.set_ 0 (.slice A3 (snapD g t).alive.length d3)).set_ 1 (.slice A4 (snapD g t).arcs.length d4)
  have K : ∀ (t' : TypeId) b cs, t' ≠ 34 → Blk w7 b t' cs → Blk ((w7.setCell ⟨w3.heap.size + 1, 0, none⟩ (.slice A3 (snapD g t).alive.length d3)).setCell ⟨w3.heap.size + 1, 1, none⟩ (.slice A4 (snapD g t).arcs.length d4)) b t' cs := fun t' b cs ht h => by
    have hne := blk_ne h b5 ht
    exact (h.far hne _).far hne _
  have hS := snap_new HV.out (hS.2.1.keep (fun b cs h => K _ b cs (by decide) h)) (hS.2.2.keep (fun b cs h => K _ b cs (by decide) h))
  have hR := snap_new HV.out (hR.2.1.keep (fun b cs h => K _ b cs (by decide) h)) (hR.2.2.keep (fun b cs h => K _ b cs (by decide) h))
  have b1n : Blk ((w7.setCell ⟨w3.heap.size + 1, 0, none⟩ (.slice A3 (snapD g t).alive.length d3)).setCell ⟨w3.heap.size + 1, 1, none⟩ (.slice A4 (snapD g t).arcs.length d4)) w3.heap.size 34 #[.slice A1 (snapD g t).alive.length d1, .slice A2 (snapD g t).arcs.length d2] :=
    (b1.far (by simp) _).far (by simp) _
  have hw3 : w.heap.size < w3.heap.size + 1 := by omega
  have hbwn := (hbw.setCell (p := ⟨w3.heap.size + 1, 0, none⟩) (by simp only; omega) (.slice A3 (snapD g t).alive.length d3)).setCell (p := ⟨w3.heap.size + 1, 1, none⟩) (by simp only; omega) (.slice A4 (snapD g t).arcs.length d4)
  clear K b1
  go_wp2_with fail
  refine (check_any A A' c c' g _ (HG.out.ext hbwn)).mono ?_
  rw [H0.out]
  rintro e w4 ⟨rfl, hb4⟩
  obtain ⟨b1n, b2, b3, b4⟩ := b1n.go hb4
  obtain ⟨b5n, b6, b7, b8⟩ := b5n.go hb4
  have hS := hS.ext hb4
  have hR := hR.ext hb4
  have hbwn := ext_trans hbwn hb4
  clear hb4 b5 hbw c1 c2 c3 B0
  go_wp2_with fail
  refine (snap_equal1 A1 A3 d1 d3 (snapD g t).alive _ _ rfl hS.1.alive hR.1.alive (Nat.le_trans hS.1.lc hS.1.cm)).mono ?_
  rintro e w5 ⟨rfl, hb6⟩
  obtain ⟨b1n, b2, b3, b4⟩ := b1n.go hb6
  obtain ⟨b5n, b6, b7, b8⟩ := b5n.go hb6
  have hS := hS.ext hb6
  have hR := hR.ext hb6
  have hbwn := ext_trans hbwn hb6
  clear hb6
  go_wp2_with fail
  refine (snap_equal2 A2 A4 d2 d4 (snapD g t).arcs _ _ rfl hS.1.arcs hR.1.arcs (Nat.le_trans hS.1.lc' hS.1.cm')).mono ?_
  rintro e w6 ⟨rfl, hb6⟩
  have hbwn := ext_trans hbwn hb6
  go_wp2_with fail
  go_ret
  exact ⟨rfl, hbwn⟩
end Go.Proofs.YtdpibehpmghghaaDoor
