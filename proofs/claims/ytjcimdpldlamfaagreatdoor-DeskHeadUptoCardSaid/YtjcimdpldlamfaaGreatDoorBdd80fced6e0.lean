/- Several texts in one: Print, ReadMem, WrapS, LaidTab. -/
import Derived.Handed
import Derived.HandedShaped
import Derived.Shelf.Vars
import Derived.Lay
import Derived.LaidMore
import Derived.MakeChecks
import Derived.Stop.LaidErr
import Derived.Stop.Joined
import Derived.Lib.LaidTab
import Derived.Test.YtjcimdpldlamfaaGreatDoorCards
import Derived.Test.YtjcimdpldlamfaaGreatDoorTie
import Derived.Test.YtjcimdpldlamfaaGreatDoorBdeff2250ea6
import Derived.Test.YtjcimdpldlamfaaGreatDoorBd9cdc4f3309
import Derived.Test.YtjcimdpldlamfaaGreatDoorBd2f7b3eaff4
import Derived.Test.YtjcimdpldlamfaaGreatDoorBd811509897b
import Derived.Test.YtjcimdpldlamfaaGreatDoorBd069242f7b3
import Derived.Test.YtjcimdpldlamfaaGreatDoorBdda32f21b61
import Derived.Test.YtjcimdpldlamfaaGreatDoorBdda53a8748f
import Derived.Test.YtjcimdpldlamfaaGreatDoorBd002cafd2b4
/- The walk of graph.Print (printed by genprint.py). -/
namespace Go.Proofs.YtjcimdpldlamfaaGreatDoor
open Go.RowKit Go.Shelf

theorem ints_of_blk {w : World} {g n : Nat} {l : List Int} {cs : Array Value} (h : Blk w g 3 cs) (hcs : cs = (l.map (Value.int .i64)).toArray) (hn : l.length = n) (hm : n ≤ 1000) (hi : ∀ x ∈ l, I64 x) : IntsAt w (some ⟨g, 0, none⟩) n l := by
 subst hcs hn
 refine ⟨Nat.le_refl _, by unfold maxLen; omega, g, 0, fun i x hx => ⟨rfl, h.lt, ?_, hi x (List.mem_of_getElem? hx)⟩⟩
 show w.cell? ⟨g, 0 + i * 1, none⟩ = some (.int .i64 x)
 rw [h.cell]
 simp [hx]
theorem OthersKept.blk {e t : TypeId} {b g : Nat} {w w' : World} {cs : Array Value} (h : Lib.OthersKept e (some b) w w') (hB : Blk w g t cs) (hg : g ≠ b) (ht : t ≠ e) : Blk w' g t cs :=
 h g _ hB (fun e => hg (by injection e)) (fun c f hc => ht (by injection hc))
/-- The numbers of a right graph are small. -/
theorem valid_small {g : GraphD} (hV : Valid g) : I64 g.h ∧ (∀ x ∈ g.lives, I64 x.f ∧ I64 x.t) ∧ ∀ x ∈ g.edges, (I64 x.a ∧ I64 x.b) ∧ x.legs.length ≤ 6 ∧ ∀ y ∈ x.legs, I64 y.f ∧ I64 y.t ∧ I64 y.time ∧ I64 y.cost := by
 have h0 := hV.h0; have h1 := hV.h1; have hn := hV.nl
 refine ⟨⟨by omega, by omega⟩, fun x hx => ?_, fun x hx => ?_⟩
 ·have := hV.lives x hx
  exact ⟨⟨by omega, by omega⟩, by omega, by omega⟩
 ·have h := hV.edges x hx
  have a0 := h.a0; have a1 := h.a1; have b0 := h.b0; have b1 := h.b1
  refine ⟨⟨⟨by omega, by omega⟩, by omega, by omega⟩, h.six, fun y hy => ?_⟩
  have hl := h.legs y hy
  have : 0 ≤ y.f ∧ y.f < y.t ∧ y.t ≤ g.h ∧ 1 ≤ y.time ∧ y.time ≤ 50 ∧ 0 ≤ y.cost ∧ y.cost ≤ 1000 := by simpa [legOk] using hl
  exact ⟨⟨by omega, by omega⟩, ⟨by omega, by omega⟩, ⟨by omega, by omega⟩, by omega, by omega⟩
theorem vertexT_len {x : IvlD} (h : I64 x.f ∧ I64 x.t) : (vertexT x).length ≤ 100 := by
 have := lineT_len (word := wVertex) (l := [x.f, x.t]) (by simp [h])
 unfold vertexT
 simp [wVertex] at this ⊢
 omega
theorem legT_len {x : LegD} (h : I64 x.f ∧ I64 x.t ∧ I64 x.time ∧ I64 x.cost) : (legT x).length ≤ 100 := by
 have := lineT_len (word := wLeg) (l := [x.f, x.t, x.time, x.cost]) (by simp [h])
 unfold legT
 simp [wLeg] at this ⊢
 omega
theorem edgeL_len {x : EdgeD} (h : I64 x.a ∧ I64 x.b) : (lineT wEdge [x.a, x.b]).length ≤ 100 := by
 have := lineT_len (word := wEdge) (l := [x.a, x.b]) (by simp [h])
 simp [wEdge] at this ⊢
 omega
theorem timeL_len {n : Int} (h : I64 n) : (lineT wTime [n]).length ≤ 100 := by
 have := lineT_len (word := wTime) (l := [n]) (by simp [h])
 simp [wTime] at this ⊢
 omega
theorem edgeT_len {g : GraphD} (hV : Valid g) {x : EdgeD} (hx : x ∈ g.edges) : (edgeT x).length ≤ 700 := by
 have h := (valid_small hV).2.2 x hx
 have h1 := edgeL_len h.1
 have h2 := flat_len (f := legT) (l := x.legs) (m := 100) fun y hy => legT_len (h.2.2 y hy)
 have h3 := h.2.1
 unfold edgeT
 rw [List.length_append]
 omega
theorem take_memP {α : Type} {l : List α} {k : Nat} {x : α} (h : x ∈ l.take k) : x ∈ l := List.mem_of_mem_take h
theorem head_len {g : GraphD} (hV : Valid g) (k j : Nat) : (lineT wTime [g.h] ++ (g.lives.take k).flatMap vertexT ++ (g.edges.take j).flatMap edgeT).length ≤ 30000 := by
 have h := valid_small hV
 have h1 := timeL_len h.1
 have h2 := flat_len (f := vertexT) (l := g.lives.take k) (m := 100) fun y hy => vertexT_len (h.2.1 y (take_memP hy))
 have h3 := flat_len (f := edgeT) (l := g.edges.take j) (m := 700) fun y hy => edgeT_len hV (take_memP hy)
 have h4 := hV.nl; have h5 := hV.ne
 rw [List.length_append, List.length_append]
 rw [List.length_take] at h2 h3
 have : min k g.lives.length ≤ 12 := by omega
 have : min j g.edges.length ≤ 30 := by omega
 have : min k g.lives.length * 100 ≤ 12 * 100 := Nat.mul_le_mul_right _ (by omega)
 have : min j g.edges.length * 700 ≤ 30 * 700 := Nat.mul_le_mul_right _ (by omega)
 omega
theorem legs_len {g : GraphD} (hV : Valid g) {x : EdgeD} (hx : x ∈ g.edges) (i : Nat) : (lineT wEdge [x.a, x.b] ++ (x.legs.take i).flatMap legT).length ≤ 1000 := by
 have h := (valid_small hV).2.2 x hx
 have h1 := edgeL_len h.1
 have h2 := flat_len (f := legT) (l := x.legs.take i) (m := 100) fun y hy => legT_len (h.2.2 y (take_memP hy))
 have h3 := h.2.1
 rw [List.length_append]
 rw [List.length_take] at h2
 have : min i x.legs.length * 100 ≤ 6 * 100 := Nat.mul_le_mul_right _ (by omega)
 omega
set_option maxRecDepth 100000 in
set_option maxHeartbeats 8000000 in
theorem print_main (A A' : Option Addr) (c c' : Nat) (g : GraphD) (w : World) (hG : GraphAt w A c A' c' g) (hV : Valid g) (ht : ITab w) :
  Calls Tryz.prog 50 #[gV A c A' c' g] w fun e w' => e = .returned (.tuple #[.string (bs (graphT g)), .int .i64 0]) ∧ Below w.heap.size w w' := by
 have HV := Lib.hid (valid_ok hV)
 have HVV := Lib.hid hV
 have HSM := Lib.hid (valid_small hV)
 have hnl := hV.nl; have hne := hV.ne
 have HTT := Lib.hid ht
 clear ht
 go_enter Tryz.func50, Tryz.ntmps50
 go_wp2_with fail
 refine (check_any _ _ _ _ g _ (hG.ext (by go_grown))).mono ?_
 rw [HV.out]
 rintro e w1 ⟨rfl, hb1⟩
 obtain ⟨B0, c1, c2, c3⟩ := (Blk.new w 68 (gC A c A' c' g)).go hb1
 have hb2 : Below w.heap.size w w1 := ext_trans (by go_grown) hb1
 have hG1 := hG.ext hb2
 have HT1 := Lib.hid (HTT.out.ext hb2)
 clear hb1 hG
 go_wp2_with fail
 obtain ⟨wa, hwa⟩ : ∃ x, x = (w1.alloc (Obj.cells #[.pointer none, .slice none 0 0] 35)).alloc (Obj.cells #[.int .i64 g.h] 3) := ⟨_, rfl⟩
 have hW : BAt w1.heap.size w1.heap.size [] wa := by rw [hwa]; exact Lib.IsBuilderF.alloc (Lib.IsBuilderF.of (Lib.fresh_isBuilder 35 5 w1)) _
 have hIa : IntsAt wa (some ⟨w1.heap.size + 1, 0, none⟩) 1 [g.h] := by rw [hwa]; exact ints_of_blk (Blk.new_ (by simp)) rfl rfl (by decide) (by simpa using HSM.out.1)
 have hba : Below w1.heap.size w1 wa := by rw [hwa]; exact ext_alloc (ext_alloc (Below.refl _ w1) _) _
 rw [← hwa]
 clear hwa
 refine (gLine_any wTime _ 1 [g.h] wa hIa (by decide) (by simp) (HT1.out.ext hba)).mono ?_
 rintro e w2 ⟨rfl, hbl⟩
 have hW : BAt w1.heap.size w1.heap.size [] w2 := BAt.ext hW hbl
 have hb12 := ext_trans hba hbl
 have htl := timeL_len HSM.out.1
 have hzz := hb12.size
 clear hIa hba hbl
 go_wp2_with fail
 refine (writeString_any w1.heap.size w1.heap.size [] (lineT wTime [g.h]) _ hW (by simp; omega) hzz).mono ?_
 rintro e w3 ⟨rfl, hW3, hb3, hk3⟩
 have hb4 : Below w1.heap.size w1 w3 := hb12.trans hb3
 have HI0 : Hid (lineT wTime [g.h] = lineT wTime [g.h] ++ (g.lives.take 0).flatMap vertexT) := Lib.hid (by simp)
 rw [List.nil_append, HI0.out] at hW3
 have hGn := hG1.ext hb4
 have hB1 := B0.ext hb4
 obtain ⟨d1, d2, d3⟩ := hB1.facts
 clear c1 c2 c3 hW hb12 hb3 hk3 htl hzz
 go_wp2_with fail
 go_loopw [25] (fun kk wr => ∃ k : Nat, k ≤ g.lives.length ∧ kk = .int .i64 k ∧ BAt w1.heap.size w1.heap.size (lineT wTime [g.h] ++ (g.lives.take k).flatMap vertexT) wr ∧ Below w1.heap.size w1 wr) (fun kk _ => g.lives.length - (intOf kk).toNat)
 case atStart => exact ⟨0, Nat.zero_le _, rfl, hW3, hb4⟩
 case round =>
  clear hW3 hb4 hGn hB1 d1 d2 d3
  obtain ⟨k, hk, rfl, hW, hb⟩ := hrel
  have hGr := hG1.ext hb
  have hwl := hb.size
  by_cases hlt : k < g.lives.length
  case pos =>
   obtain ⟨x, hx⟩ := get_lt hlt
   obtain ⟨be, oe, hE⟩ := hGr.lives
   obtain ⟨rfl, hbe, ⟨⟨x0, x1⟩, _⟩⟩ := hE k x hx
   have x0' : wr.cell? _ = _ := x0
   have x1' : wr.cell? _ = _ := x1
   have hxl := HSM.out.2.1 x (List.mem_of_getElem? hx)
   have HI2 : Hid (lineT wTime [g.h] ++ (g.lives.take (k + 1)).flatMap vertexT = lineT wTime [g.h] ++ (g.lives.take k).flatMap vertexT ++ vertexT x) := Lib.hid (by rw [flat_take hx, List.append_assoc])
   have hvl := vertexT_len hxl
   have hal := head_len HVV.out k 0
   obtain ⟨acc, hacc⟩ : ∃ acc, lineT wTime [g.h] ++ (g.lives.take k).flatMap vertexT = acc := ⟨_, rfl⟩
   rw [hacc] at HI2 hW
   rw [hacc, List.take_zero, List.flatMap_nil, List.append_nil] at hal
   clear hE hx x0 x1 hacc
   obtain ⟨wo, rfl⟩ : ∃ wo : World, wo = wr := ⟨_, rfl⟩
   go_wp2_with fail
   have hba := ext_alloc (ext_alloc (Below.refl _ wo) (Obj.cells #[.int .i64 x.f, .int .i64 x.t] 94)) (Obj.cells #[.int .i64 x.f, .int .i64 x.t] 3)
   have hIa : IntsAt ((wo.alloc (Obj.cells #[.int .i64 x.f, .int .i64 x.t] 94)).alloc (Obj.cells #[.int .i64 x.f, .int .i64 x.t] 3)) (some ⟨wo.heap.size + 1, 0, none⟩) 2 [x.f, x.t] := ints_of_blk (Blk.new_ (by simp)) rfl rfl (by decide) (by simpa using hxl)
   refine (gLine_any wVertex _ 2 [x.f, x.t] _ hIa (by decide) (by simp) ((HT1.out.ext hb).ext hba)).mono ?_
   rintro e w2 ⟨rfl, hbl⟩
   have hba := ext_trans hba hbl
   have hW2 : BAt w1.heap.size w1.heap.size acc w2 := BAt.ext hW hba
   have hb5 : Below w1.heap.size w1 w2 := hb.trans (hba.mono hwl)
   have hz5 := hb5.size
   clear hIa hbl hW
   go_wp2_with fail
   refine (writeString_any w1.heap.size w1.heap.size acc (vertexT x) _ hW2 (by omega) hz5).mono ?_
   rintro e w3 ⟨rfl, hW3, hb3, hk3⟩
   go_wp2_with fail
   go_roundw
   case rel => exact ⟨k + 1, by omega, by go_num, by rw [HI2.out]; exact hW3, hb5.trans hb3⟩
   case measure => simp [intOf]; omega
  have HI3 : Hid (lineT wTime [g.h] ++ (g.lives.take k).flatMap vertexT = lineT wTime [g.h] ++ g.lives.flatMap vertexT ++ (g.edges.take 0).flatMap edgeT) := Lib.hid (by rw [List.take_of_length_le (by omega)]; simp)
  rw [HI3.out] at hW
  have hB1 := B0.ext hb
  obtain ⟨d1, d2, d3⟩ := hB1.facts
  go_wp2_with fail
  go_loopw [40] (fun jj wr => ∃ j : Nat, j ≤ g.edges.length ∧ jj = .int .i64 j ∧ BAt w1.heap.size w1.heap.size (lineT wTime [g.h] ++ g.lives.flatMap vertexT ++ (g.edges.take j).flatMap edgeT) wr ∧ Below w1.heap.size w1 wr) (fun jj _ => g.edges.length - (intOf jj).toNat)
  case atStart => exact ⟨0, Nat.zero_le _, rfl, hW, hb⟩
  case round =>
   clear hW hb hB1 d1 d2 d3 hwl hGr
   obtain ⟨j, hj, rfl, hW, hb⟩ := hrel
   have hwl := hb.size
   have hal := head_len HVV.out g.lives.length j
   rw [List.take_length] at hal
   by_cases hltj : j < g.edges.length
   case neg =>
    have HE : Hid (lineT wTime [g.h] ++ g.lives.flatMap vertexT ++ (g.edges.take j).flatMap edgeT = graphT g) := Lib.hid (by rw [List.take_of_length_le (by omega)]; rfl)
    rw [HE.out] at hW
    clear hal
    go_wp2_with fail
    refine (Txt.Builder_String_any_k w1.heap.size w1.heap.size (graphT g) _ hW hwl).mono ?_
    rintro e w3 ⟨rfl, hW3, hb3, hk3⟩
    go_wp2_with fail
    go_ret2
    exact ⟨rfl, ext_trans hb2 (hb.trans hb3)⟩
   case pos =>
    obtain ⟨x, hx⟩ := get_lt hltj
    have hxm := List.mem_of_getElem? hx
    obtain ⟨be, oe, hE⟩ := hG1.edges
    obtain ⟨rfl, hbe0, ⟨⟨x0, x1, L, cl, x2, hl1, hl2, hL⟩, _⟩⟩ := hE j x hx
    have x0' := x0.now hb
    have x1' := x1.now hb
    have x2' := x2.now hb
    have hbe : be < wr.heap.size := by have := hb.size; omega
    have hxe := HSM.out.2.2 x hxm
    have h6 := hxe.2.1
    have hel := edgeL_len hxe.1
    have HLL := Lib.hid (fun i => legs_len HVV.out hxm i)
    have HXE := Lib.hid hxe
    have HI2 : Hid (lineT wTime [g.h] ++ g.lives.flatMap vertexT ++ (g.edges.take (j + 1)).flatMap edgeT = lineT wTime [g.h] ++ g.lives.flatMap vertexT ++ (g.edges.take j).flatMap edgeT ++ (lineT wEdge [x.a, x.b] ++ (x.legs.take x.legs.length).flatMap legT)) := Lib.hid (by rw [flat_take hx, List.take_length, ← List.append_assoc]; rfl)
    obtain ⟨acc, hacc⟩ : ∃ acc, lineT wTime [g.h] ++ g.lives.flatMap vertexT ++ (g.edges.take j).flatMap edgeT = acc := ⟨_, rfl⟩
    rw [hacc] at HI2 hW hal
    clear hE hx x0 x1 x2 hacc hxm hxe
    obtain ⟨wo, rfl⟩ : ∃ wo : World, wo = wr := ⟨_, rfl⟩
    go_wp2_with fail
    have hba := ext_alloc (ext_alloc (Below.refl _ wo) (Obj.cells #[.int .i64 x.a, .int .i64 x.b, .slice L x.legs.length cl] 97)) (Obj.cells #[.int .i64 x.a, .int .i64 x.b] 3)
    have BE := (Blk.new wo 97 #[.int .i64 x.a, .int .i64 x.b, .slice L x.legs.length cl]).alloc (Obj.cells #[.int .i64 x.a, .int .i64 x.b] 3)
    have hIa : IntsAt ((wo.alloc (Obj.cells #[.int .i64 x.a, .int .i64 x.b, .slice L x.legs.length cl] 97)).alloc (Obj.cells #[.int .i64 x.a, .int .i64 x.b] 3)) (some ⟨wo.heap.size + 1, 0, none⟩) 2 [x.a, x.b] := ints_of_blk (Blk.new_ (by simp)) rfl rfl (by decide) (by simpa using HXE.out.1)
    refine (gLine_any wEdge _ 2 [x.a, x.b] _ hIa (by decide) (by simp) ((HT1.out.ext hb).ext hba)).mono ?_
    rintro e w2 ⟨rfl, hbl⟩
    have BE := BE.ext hbl
    have hba := ext_trans hba hbl
    have hW2 : BAt w1.heap.size w1.heap.size acc w2 := BAt.ext hW hba
    have hb5 : Below w1.heap.size w1 w2 := hb.trans (hba.mono hwl)
    have hz5 := hb5.size
    have hbb : w1.heap.size < wo.heap.size := BAt.lt hW
    clear hIa hbl hW
    go_wp2_with fail
    refine (writeString_any w1.heap.size w1.heap.size acc (lineT wEdge [x.a, x.b]) _ hW2 (by omega) hz5).mono ?_
    rintro e w3 ⟨rfl, hW3, hb3, hk3⟩
    have BE := OthersKept.blk hk3 BE (by omega) (by decide)
    obtain ⟨f1, f2, f3⟩ := BE.facts
    have hb6 := hb5.trans hb3
    obtain ⟨bl, ol, hLL⟩ := hL
    have HI4 : Hid (acc ++ lineT wEdge [x.a, x.b] = acc ++ (lineT wEdge [x.a, x.b] ++ (x.legs.take 0).flatMap legT)) := Lib.hid (by simp)
    rw [HI4.out] at hW3
    clear x0' x1' x2' hW2 hb3 hk3 hb5 hz5 hba
    go_wp2_with fail
    go_loopw [54] (fun ii wr => ∃ i : Nat, i ≤ x.legs.length ∧ ii = .int .i64 i ∧ BAt w1.heap.size w1.heap.size (acc ++ (lineT wEdge [x.a, x.b] ++ (x.legs.take i).flatMap legT)) wr ∧ Below w1.heap.size w1 wr) (fun ii _ => x.legs.length - (intOf ii).toNat)
    case atStart => exact ⟨0, Nat.zero_le _, rfl, hW3, hb6⟩
    case round =>
     clear hW3 hb6 BE f1 f2 f3
     obtain ⟨i, hi', rfl, hW, hb⟩ := hrel
     have hwl := hb.size
     have hal2 := HLL.out i
     by_cases hlti : i < x.legs.length
     case neg =>
      obtain rfl : i = x.legs.length := by omega
      go_wp2_with fail
      go_roundw
      case rel => exact ⟨j + 1, by omega, by go_num, by rw [HI2.out]; exact hW, hb⟩
      case measure => simp [intOf]; omega
     obtain ⟨lg, hlg⟩ := get_lt hlti
     obtain ⟨rfl, hbl0, ⟨⟨l0, l1, l2, l3⟩, _⟩⟩ := hLL i lg hlg
     have l0' := l0.now hb
     have l1' := l1.now hb
     have l2' := l2.now hb
     have l3' := l3.now hb
     have hbl : bl < wr.heap.size := by have := hb.size; omega
     have hlo := HXE.out.2.2 lg (List.mem_of_getElem? hlg)
     have hle := legT_len hlo
     have HI5 : Hid (acc ++ (lineT wEdge [x.a, x.b] ++ (x.legs.take (i + 1)).flatMap legT) = acc ++ (lineT wEdge [x.a, x.b] ++ (x.legs.take i).flatMap legT) ++ legT lg) := Lib.hid (by rw [flat_take hlg]; simp only [List.append_assoc])
     obtain ⟨ac2, hac2⟩ : ∃ ac2, acc ++ (lineT wEdge [x.a, x.b] ++ (x.legs.take i).flatMap legT) = ac2 := ⟨_, rfl⟩
     have hal3 : ac2.length ≤ 40000 := by rw [← hac2, List.length_append]; omega
     rw [hac2] at HI5 hW
     clear hlg l0 l1 l2 l3 hac2 hal2
     obtain ⟨wo2, rfl⟩ : ∃ wo : World, wo = wr := ⟨_, rfl⟩
     go_wp2_with fail
     have hba := ext_alloc (ext_alloc (Below.refl _ wo2) (Obj.cells #[.int .i64 lg.f, .int .i64 lg.t, .int .i64 lg.time, .int .i64 lg.cost] 100)) (Obj.cells #[.int .i64 lg.f, .int .i64 lg.t, .int .i64 lg.time, .int .i64 lg.cost] 3)
     have hIa : IntsAt ((wo2.alloc (Obj.cells #[.int .i64 lg.f, .int .i64 lg.t, .int .i64 lg.time, .int .i64 lg.cost] 100)).alloc (Obj.cells #[.int .i64 lg.f, .int .i64 lg.t, .int .i64 lg.time, .int .i64 lg.cost] 3)) (some ⟨wo2.heap.size + 1, 0, none⟩) 4 [lg.f, lg.t, lg.time, lg.cost] := ints_of_blk (Blk.new_ (by simp)) rfl rfl (by decide) (by simpa using hlo)
     refine (gLine_any wLeg _ 4 [lg.f, lg.t, lg.time, lg.cost] _ hIa (by decide) (by simp) ((HT1.out.ext hb).ext hba)).mono ?_
     rintro e w4 ⟨rfl, hbl4⟩
     have hba := ext_trans hba hbl4
     have hW2 : BAt w1.heap.size w1.heap.size ac2 w4 := BAt.ext hW hba
     have hb5 : Below w1.heap.size w1 w4 := hb.trans (hba.mono hwl)
     have hz5 := hb5.size
     clear hIa hbl4 hW
     go_wp2_with fail
     refine (writeString_any w1.heap.size w1.heap.size ac2 (legT lg) _ hW2 (by omega) hz5).mono ?_
     rintro e w5 ⟨rfl, hW5, hb7, hk7⟩
     go_wp2_with fail
     go_roundw
     case rel => exact ⟨i + 1, by omega, by go_num, by rw [HI5.out]; exact hW5, hb5.trans hb7⟩
     case measure => simp [intOf]; omega
set_option maxHeartbeats 1000000 in
theorem print_any (A A' : Option Addr) (c c' : Nat) (g : GraphD) (w : World) (hG : GraphAt w A c A' c' g) (ht : ITab w) :
  Calls Tryz.prog 50 #[gV A c A' c' g] w fun e w' => e = .returned (.tuple #[.string (bs (if graphErr g = 0 then graphT g else [])), .int .i64 (graphErr g)]) ∧ Below w.heap.size w w' := by
 by_cases h0 : graphErr g = 0
 ·rw [if_pos h0, h0]
  exact print_main A A' c c' g w hG (valid_of h0) ht
 ·rw [if_neg h0]
  have hn : (graphErr g != 0) = true := by simp [h0]
  clear h0 ht
  go_enter Tryz.func50, Tryz.ntmps50
  go_wp2_with fail
  refine (check_any _ _ _ _ g _ (hG.ext (by go_grown))).mono ?_
  rintro e w1 ⟨rfl, hb1⟩
  have hb2 : Below w.heap.size w w1 := ext_trans (by go_grown) hb1
  go_wp2_with fail
  go_ret2
  exact ⟨rfl, hb2⟩
end Go.Proofs.YtjcimdpldlamfaaGreatDoor
/- A graph that is built line by line behind a pointer: its lives, its edges, the legs of the last one. -/
namespace Go.Proofs.YtjcimdpldlamfaaGreatDoor
open Go.RowKit

theorem eEnc_len (x : EItem) : (eEnc x).length = 3 := rfl
structure LastAt (w : World) (base : Nat) (init : List EItem) (it : EItem) : Prop where
 legs : LegsAt w init
 own : Own legC 4 w base 100 (.slice it.2.1 it.1.legs.length it.2.2) it.1.legs
 apart : ∀ y, y ∈ init → ∀ g, y.2.1 = some ⟨g, 0, none⟩ → 0 < y.1.legs.length → some g ≠ (Value.slice it.2.1 it.1.legs.length it.2.2).ownBlock
def LegsX (w : World) (base : Nat) (items : List EItem) : Prop := ∀ init it, items = init ++ [it] → LastAt w base init it
section
variable {w w' : World} {base p n gn cap : Nat} {h : Int} {vl ve : Value} {lv : List IvlD} {items init : List EItem} {it : EItem}
theorem LegsX.nil : LegsX w base [] := fun init it e => by simp at e
theorem LegsX.all (hX : LegsX w base items) : LegsAt w items := by
 rcases List.eq_nil_or_concat items with rfl | ⟨init, it, rfl⟩
 ·exact LegsAt.nil
 ·rw [List.concat_eq_append] at hX ⊢
  have hL := hX init it rfl
  have hr := hL.own.room
  exact hL.legs.snoc ⟨hL.own.lown, hr.1, hr.2⟩
theorem LegsX.keep (hX : LegsX w base items) (hk : ∀ b cs, Blk w b 100 cs → Blk w' b 100 cs) : LegsX w' base items := fun init it e => by
 have hL := hX init it e
 exact ⟨hL.legs.keep hk, hL.own.keep hk, hL.apart⟩
/-- A new edge, without legs. -/
theorem LegsX.new (hX : LegsX w base items) (a b : Int) : LegsX w base (items ++ [(⟨a, b, []⟩, none, 0)]) := fun init it e => by
 obtain ⟨rfl, e2⟩ := List.append_inj' e rfl
 obtain rfl : it = (⟨a, b, []⟩, none, 0) := by simpa using e2.symm
 exact ⟨hX.all, Own.nil, fun y _ g _ _ => by simp [Value.ownBlock]⟩
/-- The last edge has a leg more. -/
theorem LegsX.more (hL : LastAt w base init it) (l : LegD) (hown : Own legC 4 w' base 100 (.slice (some ⟨gn, 0, none⟩) (it.1.legs.length + 1) cap) (it.1.legs ++ [l]))
  (hkp : ∀ b t' cs', Blk w b t' cs' → some b ≠ (Value.slice it.2.1 it.1.legs.length it.2.2).ownBlock → Blk w' b t' cs') (hgn : (Value.slice it.2.1 it.1.legs.length it.2.2).ownBlock = some gn ∨ w.heap.size < gn) :
  LegsX w' base (init ++ [(⟨it.1.a, it.1.b, it.1.legs ++ [l]⟩, some ⟨gn, 0, none⟩, cap)]) := fun init' it' e => by
 obtain ⟨rfl, e2⟩ := List.append_inj' e rfl
 obtain rfl : it' = _ := by simpa using e2.symm
 refine ⟨fun y hy => ?_, by simpa using hown, fun y hy g hg h0 => ?_⟩
 ·obtain ⟨k1, k2, k3⟩ := hL.legs y hy
  refine ⟨fun h0 => ?_, k2, k3⟩
  obtain ⟨g, cs, hg, hB, hc⟩ := k1 h0
  exact ⟨g, cs, hg, hkp _ _ _ hB (hL.apart y hy g hg h0), hc⟩
 ·have ho := hL.apart y hy g hg h0
  simp only [Value.ownBlock]
  intro e1
  obtain rfl : g = gn := Option.some.inj e1
  rcases hgn with h1 | h1
  ·exact ho h1.symm
  ·obtain ⟨g', cs, hg', hB, _⟩ := (hL.legs y hy).1 h0
   rw [hg] at hg'
   obtain rfl : g = g' := by simpa using hg'
   have := hB.lt
   omega
/-- The graph behind the pointer, of at most n lives, edges, legs of an edge. -/
structure GMem (w : World) (p n : Nat) (h : Int) (vl ve : Value) (lv : List IvlD) (items : List EItem) : Prop where
 gr : Blk w p 68 #[.int .i64 h, vl, ve]
 lives : Own ivlC 2 w (p + 1) 94 vl lv
 edges : Own eEnc 3 w (p + 1) 97 ve items
 legs : LegsX w (p + 1) items
 sm : I64 h ∧ (∀ x, x ∈ lv → I64 x.f ∧ I64 x.t) ∧ ∀ it, it ∈ items → I64 it.1.a ∧ I64 it.1.b ∧ ∀ x, x ∈ it.1.legs → LegI x
 cnt : lv.length ≤ n ∧ items.length ≤ n ∧ ∀ it, it ∈ items → it.1.legs.length ≤ n
abbrev gOf (h : Int) (lv : List IvlD) (items : List EItem) : GraphD := ⟨h, lv, items.map Prod.fst⟩
theorem GMem.keep (M : GMem w p n h vl ve lv items) (hk : ∀ b t cs, Blk w b t cs → Blk w' b t cs) : GMem w' p n h vl ve lv items :=
 ⟨hk _ _ _ M.gr, M.lives.keep fun b cs => hk b _ cs, M.edges.keep fun b cs => hk b _ cs, M.legs.keep fun b cs => hk b _ cs, M.sm, M.cnt⟩
theorem GMem.ext (M : GMem w p n h vl ve lv items) (hb : Below w.heap.size w w') : GMem w' p n h vl ve lv items := M.keep fun _ _ _ h => h.ext hb
theorem GMem.drew (M : GMem w p n h vl ve lv items) : GMem w.drew p n h vl ve lv items := M.keep fun _ _ _ h => h.drew
theorem GMem.drewN (M : GMem w p n h vl ve lv items) (k : Nat) : GMem (w.drewN k) p n h vl ve lv items := M.keep fun _ _ _ h => h.drewN k
theorem GMem.more {m : Nat} (M : GMem w p n h vl ve lv items) (hm : n ≤ m) : GMem w p m h vl ve lv items := ⟨M.gr, M.lives, M.edges, M.legs, M.sm, by have := M.cnt.1; omega, by have := M.cnt.2.1; omega, fun it hi => by have := M.cnt.2.2 it hi; omega⟩
theorem GMem.le (M : GMem w p n h vl ve lv items) : p < w.heap.size := M.gr.lt
theorem GMem.new (w : World) (p : Nat) (hp : p = w.heap.size) (n : Nat) : GMem (w.alloc (.cells #[.int .i64 0, .slice none 0 0, .slice none 0 0] 68)) p n 0 (.slice none 0 0) (.slice none 0 0) [] [] :=
 ⟨Blk.new_ hp, Own.nil, Own.nil, LegsX.nil, ⟨by simp [I64], fun x hx => by simp at hx, fun x hx => by simp at hx⟩, by simp, by simp, fun x hx => by simp at hx⟩
theorem GMem.at_ (M : GMem w p n h vl ve lv items) : ∃ A c A' c', vl = .slice A lv.length c ∧ ve = .slice A' items.length c' ∧ GraphAt w A c A' c' (gOf h lv items) := by
 obtain ⟨A, c, rfl, hS⟩ := own_lives M.lives M.sm.2.1
 obtain ⟨A', c', rfl, hS'⟩ := own_edges M.edges M.legs.all M.sm.2.2
 have h1 := M.lives.room
 have h2 := M.edges.room
 exact ⟨A, c, A', c', rfl, rfl, M.sm.1, h1.1, h1.2, by simpa using h2.1, h2.2, hS, hS'⟩
theorem graph_own {A A' : Option Addr} {c c' : Nat} (h1 : Own ivlC 2 w base 94 (.slice A lv.length c) lv) (h2 : Own eEnc 3 w base 97 (.slice A' items.length c') items) (h3 : LegsX w base items)
  (sm : I64 h ∧ (∀ x, x ∈ lv → I64 x.f ∧ I64 x.t) ∧ ∀ it, it ∈ items → I64 it.1.a ∧ I64 it.1.b ∧ ∀ x, x ∈ it.1.legs → LegI x) : GraphAt w A c A' c' (gOf h lv items) := by
 have r1 := h1.room
 have r2 := h2.room
 obtain ⟨B, d, e1, hS⟩ := own_lives h1 sm.2.1
 obtain ⟨B', d', e2, hS'⟩ := own_edges h2 h3.all sm.2.2
 obtain ⟨rfl, rfl⟩ : A = B ∧ c = d := by simpa using e1
 obtain ⟨rfl, rfl⟩ : A' = B' ∧ c' = d' := by simpa using e2
 exact ⟨sm.1, r1.1, r1.2, by simpa using r2.1, r2.2, hS, hS'⟩
/-- The graph, after it was told in a block of its own. -/
theorem GMem.told {A A' : Option Addr} {c c' B : Nat} {cs : Array Value} (M : GMem w p n h (.slice A lv.length c) (.slice A' items.length c') lv items) (hB : Blk w B 68 cs) (u0 u1 u2 : Value) :
  GraphAt (((w.setCell ⟨B, 0, none⟩ u0).setCell ⟨B, 1, none⟩ u1).setCell ⟨B, 2, none⟩ u2) A c A' c' (gOf h lv items) := by
 have hk : ∀ t b cs, t ≠ 68 → Blk w b t cs → Blk (((w.setCell ⟨B, 0, none⟩ u0).setCell ⟨B, 1, none⟩ u1).setCell ⟨B, 2, none⟩ u2) b t cs := fun t b cs ht hb => by
  have hne : b ≠ B := blk_ne hb hB ht
  exact ((hb.far (p := ⟨B, 0, none⟩) hne _).far (p := ⟨B, 1, none⟩) hne _).far (p := ⟨B, 2, none⟩) hne _
 exact graph_own (M.lives.keep fun b cs => hk _ b cs (by decide)) (M.edges.keep fun b cs => hk _ b cs (by decide)) (M.legs.keep fun b cs => hk _ b cs (by decide)) M.sm
/-! ### what lines do to it -/
theorem GMem.time (M : GMem w p n h vl ve lv items) {a : Int} (ha : I64 a) : GMem (w.setCell ⟨p, 0, none⟩ (.int .i64 a)) p n a vl ve lv items :=
 ⟨by simpa using M.gr.set_ 0 (.int .i64 a), M.lives.keep (keep_store M.gr (by decide) 0 _), M.edges.keep (keep_store M.gr (by decide) 0 _), M.legs.keep (keep_store M.gr (by decide) 0 _), ⟨ha, M.sm.2⟩, M.cnt⟩
theorem GMem.vertex (M : GMem w p n h vl ve lv items) {x : IvlD} (hown : Own ivlC 2 w' (p + 1) 94 (.slice (some ⟨gn, 0, none⟩) (lv.length + 1) cap) (lv ++ [x]))
  (hkp : ∀ b t' cs', Blk w b t' cs' → some b ≠ vl.ownBlock → Blk w' b t' cs') (hx : I64 x.f ∧ I64 x.t) :
  Blk w' p 68 #[.int .i64 h, vl, ve] ∧ GMem (w'.setCell ⟨p, 1, none⟩ (.slice (some ⟨gn, 0, none⟩) (lv.length + 1) cap)) p (n + 1) h (.slice (some ⟨gn, 0, none⟩) (lv.length + 1) cap) ve (lv ++ [x]) items := by
 have hk : ∀ t b cs, t ≠ 94 → Blk w b t cs → Blk w' b t cs := fun t b cs ht h => hkp _ _ _ h (M.lives.other h ht)
 have hg := hk _ _ _ (by decide) M.gr
 refine ⟨hg, by simpa using hg.set_ 1 (.slice (some ⟨gn, 0, none⟩) (lv.length + 1) cap), hown.keep (keep_store hg (by decide) 1 _), (M.edges.keep fun b cs => hk _ b cs (by decide)).keep (keep_store hg (by decide) 1 _),
  (M.legs.keep fun b cs => hk _ b cs (by decide)).keep (keep_store hg (by decide) 1 _), ⟨M.sm.1, fun y hy => ?_, M.sm.2.2⟩, by have := M.cnt.1; simp; omega, by have := M.cnt.2.1; omega, fun it hi => by have := M.cnt.2.2 it hi; omega⟩
 rcases List.mem_append.1 hy with hy | hy
 ·exact M.sm.2.1 y hy
 ·obtain rfl : y = x := by simpa using hy
  exact hx
theorem GMem.edge (M : GMem w p n h vl ve lv items) {a b : Int} (hown : Own eEnc 3 w' (p + 1) 97 (.slice (some ⟨gn, 0, none⟩) (items.length + 1) cap) (items ++ [(⟨a, b, []⟩, none, 0)]))
  (hkp : ∀ b t' cs', Blk w b t' cs' → some b ≠ ve.ownBlock → Blk w' b t' cs') (hx : I64 a ∧ I64 b) :
  Blk w' p 68 #[.int .i64 h, vl, ve] ∧ GMem (w'.setCell ⟨p, 2, none⟩ (.slice (some ⟨gn, 0, none⟩) (items.length + 1) cap)) p (n + 1) h vl (.slice (some ⟨gn, 0, none⟩) (items.length + 1) cap) lv (items ++ [(⟨a, b, []⟩, none, 0)]) := by
 have hk : ∀ t b cs, t ≠ 97 → Blk w b t cs → Blk w' b t cs := fun t b cs ht h => hkp _ _ _ h (M.edges.other h ht)
 have hg := hk _ _ _ (by decide) M.gr
 refine ⟨hg, by simpa using hg.set_ 2 (.slice (some ⟨gn, 0, none⟩) (items.length + 1) cap), (M.lives.keep fun b cs => hk _ b cs (by decide)).keep (keep_store hg (by decide) 2 _), hown.keep (keep_store hg (by decide) 2 _),
  ((M.legs.keep fun b cs => hk _ b cs (by decide)).keep (keep_store hg (by decide) 2 _)).new a b, ⟨M.sm.1, M.sm.2.1, fun y hy => ?_⟩, by have := M.cnt.1; omega, by have := M.cnt.2.1; simp; omega, fun it hi => ?_⟩
 ·rcases List.mem_append.1 hy with hy | hy
  ·exact M.sm.2.2 y hy
  ·obtain rfl : y = _ := by simpa using hy
   exact ⟨hx.1, hx.2, fun x hx => by simp at hx⟩
 ·rcases List.mem_append.1 hi with hi | hi
  ·have := M.cnt.2.2 it hi; omega
  ·obtain rfl : it = _ := by simpa using hi
   simp
/-- The edges' block, and what a store of the last one's legs makes of it. -/
theorem edges_last {c : Nat} {A : Option Addr} (hO : Own eEnc 3 w base 97 (.slice A n c) (init ++ [it])) : ∃ ge, A = some ⟨ge, 0, none⟩ ∧ n = init.length + 1 ∧ base ≤ ge ∧ ∃ cs, Blk w ge 97 cs ∧
  cs[init.length * 3 + 2]? = some (.slice it.2.1 it.1.legs.length it.2.2) := by
 rcases hO.2 with ⟨h1, h0⟩ | ⟨g, cap, cur, hv, _⟩
 ·simp at h0
 ·simp only [Value.slice.injEq] at hv
  obtain ⟨rfl, rfl, rfl⟩ := hv
  obtain ⟨h1, h2, _, _, cs, hB, _, hrow⟩ := hO.cells eEnc_len
  refine ⟨g, rfl, by simp, h2, cs, hB, ?_⟩
  have := hrow init.length it (by simp) 2 (by decide)
  simpa [eEnc] using this
theorem edges_put {ge c : Nat} {it' : EItem} (hO : Own eEnc 3 w base 97 (.slice (some ⟨ge, 0, none⟩) n c) (init ++ [it])) (ha : it'.1.a = it.1.a) (hb : it'.1.b = it.1.b) :
  Own eEnc 3 (w.setCell ⟨ge, init.length * 3 + 2, none⟩ (.slice it'.2.1 it'.1.legs.length it'.2.2)) base 97 (.slice (some ⟨ge, 0, none⟩) n c) (init ++ [it']) := by
 obtain ⟨h1, h2, h3, h4, cs, hB, hcs, hrow⟩ := hO.cells eEnc_len
 have hl : (init ++ [it']).length = (init ++ [it]).length := by simp
 have k2 : init.length * 3 + 2 < cs.size := by
  rw [hcs]
  simp only [List.length_append, List.length_cons, List.length_nil] at h3
  omega
 have k0 := hrow init.length it (by simp) 0 (by decide)
 have k1 := hrow init.length it (by simp) 1 (by decide)
 rw [h1, ← hl]
 refine Own.of_cells eEnc_len (by decide) (hB.set_ _ _) h2 (by rw [hl]; exact h3) h4 (by simpa using hcs) ?_
 have e : (init ++ [it]).set init.length it' = init ++ [it'] := by simp
 rw [← e]
 refine hrow.set (by simp) (fun t ht => by rw [Array.getElem?_setIfInBounds_ne (by omega)]) (fun t ht => ?_)
 match t, ht with
 | 0, _ => rw [Array.getElem?_setIfInBounds_ne (by omega), k0]; simp [eEnc, ha]
 | 1, _ => rw [Array.getElem?_setIfInBounds_ne (by omega), k1]; simp [eEnc, hb]
 | 2, _ => rw [Array.getElem?_setIfInBounds_self_of_lt k2]; rfl
theorem GMem.leg {ge c : Nat} (M : GMem w p n h vl (.slice (some ⟨ge, 0, none⟩) (init.length + 1) c) lv (init ++ [it])) {l : LegD} (hown : Own legC 4 w' (p + 1) 100 (.slice (some ⟨gn, 0, none⟩) (it.1.legs.length + 1) cap) (it.1.legs ++ [l]))
  (hkp : ∀ b t' cs', Blk w b t' cs' → some b ≠ (Value.slice it.2.1 it.1.legs.length it.2.2).ownBlock → Blk w' b t' cs') (hgn : (Value.slice it.2.1 it.1.legs.length it.2.2).ownBlock = some gn ∨ w.heap.size < gn) (hx : LegI l) :
  Blk w' p 68 #[.int .i64 h, vl, .slice (some ⟨ge, 0, none⟩) (init.length + 1) c] ∧ (∀ cs, Blk w ge 97 cs → Blk w' ge 97 cs) ∧
  GMem (w'.setCell ⟨ge, init.length * 3 + 2, none⟩ (.slice (some ⟨gn, 0, none⟩) (it.1.legs.length + 1) cap)) p (n + 1) h vl (.slice (some ⟨ge, 0, none⟩) (init.length + 1) c) lv (init ++ [(⟨it.1.a, it.1.b, it.1.legs ++ [l]⟩, some ⟨gn, 0, none⟩, cap)]) := by
 have hL := M.legs init it rfl
 have hk : ∀ t b cs, t ≠ 100 → Blk w b t cs → Blk w' b t cs := fun t b cs ht h => hkp _ _ _ h (hL.own.other h ht)
 have hg := hk _ _ _ (by decide) M.gr
 obtain ⟨_, _, _, _, cs, hB, _, _⟩ := M.edges.cells eEnc_len
 have hBe := hk _ _ _ (by decide) hB
 have hX := LegsX.more hL l hown hkp hgn
 have hE := edges_put (it' := (⟨it.1.a, it.1.b, it.1.legs ++ [l]⟩, some ⟨gn, 0, none⟩, cap)) (M.edges.keep fun b cs => hk _ b cs (by decide)) rfl rfl
 rw [show (it.1.legs ++ [l]).length = it.1.legs.length + 1 by simp] at hE
 refine ⟨hg, fun cs h => hk _ _ _ (by decide) h, keep_store hBe (by decide) _ _ _ _ hg, (M.lives.keep fun b cs => hk _ b cs (by decide)).keep (keep_store hBe (by decide) _ _), hE, hX.keep (keep_store hBe (by decide) _ _), ⟨M.sm.1, M.sm.2.1, fun y hy => ?_⟩,
  by have := M.cnt.1; omega, by have := M.cnt.2.1; simp at this ⊢; omega, fun y hy => ?_⟩
 ·rcases List.mem_append.1 hy with hy | hy
  ·exact M.sm.2.2 y (by simp [hy])
  ·obtain rfl : y = _ := by simpa using hy
   obtain ⟨h1, h2, h3⟩ := M.sm.2.2 it (by simp)
   refine ⟨h1, h2, fun x hx' => ?_⟩
   rcases List.mem_append.1 hx' with hx' | hx'
   ·exact h3 x hx'
   ·obtain rfl : x = l := by simpa using hx'
    exact hx
 ·rcases List.mem_append.1 hy with hy | hy
  ·have := M.cnt.2.2 y (by simp [hy]); omega
  ·obtain rfl : y = _ := by simpa using hy
   have := M.cnt.2.2 it (by simp)
   simp
   omega
end
end Go.Proofs.YtjcimdpldlamfaaGreatDoor
/- The wrap of a row that lists tables, the world's shape kept; the variable MaxLen holds some int. -/
namespace Go.Proofs.YtjcimdpldlamfaaGreatDoor
open Go.ChangeShapes Go.WideShapes Go.ChangeAt Go.RowKit
variable {H : Type} {enc : TypeId × Value → H}
theorem maxLen_of {W : World} (h : W.ShapedOpen Tryz.prog) : MaxL W :=
 cell_of_shapedOpen_int (k := .i64) (t := 3) (zero := #[.int .i64 0]) h (of_decide_eq_true (by kernel_rfl)) (by kernel_rfl) rfl (by kernel_rfl) (by kernel_rfl) Tryz.underlying3
end Go.Proofs.YtjcimdpldlamfaaGreatDoor
/- What a row's list of laid tables gives: the table that Itoa reads; where a call may start so that the list is met. -/
namespace Go.Proofs.YtjcimdpldlamfaaGreatDoor
open Go.ChangeShapes Go.WideShapes Go.ChangeAt Go.RowKit

theorem tab_type : (Tryz.prog.globals[3]?).map (·.type) = some 206 := by kernel_rfl
theorem tab_global : Tryz.prog.globalNamed "internal/strconv.uint64pow10" = some 3 := by kernel_rfl
theorem tab_of {rest : List (String × DataW Unit)} {w : World} (h : laidMet Tryz.prog (("internal/strconv.uint64pow10", Rows.laid_internal_strconv_uint64pow10) :: rest) w) : ITab w :=
 Lib.tabIs_of_head tab_global tab_type Tryz.underlying206 Tryz.underlying176 (by kernel_rfl) (by kernel_rfl) (by
  have e : (Rows.laid_internal_strconv_uint64pow10 : DataW Unit) = Lib.tabData .u64 Lib.pow10Tab := by kernel_rfl
  rw [← e]
  exact h)
end Go.Proofs.YtjcimdpldlamfaaGreatDoor
