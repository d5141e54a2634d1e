/- Several texts in one: Print, SnapSpec, SnapMem, Step. -/
import Derived.Test.YtdpibehpmghghaaDoorBd0afb560576
import Derived.Test.YtdpibehpmghghaaDoorBd116ff3bb84
import Derived.Test.YtdpibehpmghghaaDoorBd3ad2f3bfb1
/- The walk of graph.Print (printed by genprint.py). -/
namespace Go.Proofs.YtdpibehpmghghaaDoor
open Go.RowKit Go.Shelf

theorem ints_of_blk {w : World} {g n : Nat} {l : List Int} {cs : Array Value} (h : Blk w g 3 cs) (hcs : cs = (l.map (Value.int .i64)).toArray) (hn : l.length = n) (hm : n ≤ 1000) (hi : ∀ x ∈ l, I64 x) : IntsAt w (some ⟨g, 0, none⟩) n l := by
  subst hcs hn
  refine ⟨Nat.le_refl _, by unfold maxLen; omega, g, 0, fun i x hx => ⟨rfl, h.lt, ?_, hi x (List.mem_of_getElem? hx)⟩⟩
  show w.cell? ⟨g, 0 + i * 1, none⟩ = some (.int .i64 x)
  rw [h.cell]
  simp [hx]
theorem OthersKept.blk {e t : TypeId} {b g : Nat} {w w' : World} {cs : Array Value} (h : Lib.OthersKept e (some b) w w') (hB : Blk w g t cs) (hg : g ≠ b) (ht : t ≠ e) : Blk w' g t cs :=
  h g _ hB (fun e => hg (by injection e)) (fun c f hc => ht (by injection hc))
/-- The numbers of a right graph are small. -/
theorem valid_small {g : GraphD} (hV : Valid g) : I64 g.h ∧ (∀ x ∈ g.lives, I64 x.f ∧ I64 x.t) ∧ ∀ x ∈ g.edges, (I64 x.a ∧ I64 x.b) ∧ x.legs.length ≤ 6 ∧ ∀ y ∈ x.legs, I64 y.f ∧ I64 y.t ∧ I64 y.time ∧ I64 y.cost := by
  have h0 := hV.h0; have h1 := hV.h1; have hn := hV.nl
  refine ⟨⟨by omega, by omega⟩, fun x hx => ?_, fun x hx => ?_⟩
  · have := hV.lives x hx
    exact ⟨⟨by omega, by omega⟩, by omega, by omega⟩
  · have h := hV.edges x hx
    have a0 := h.a0; have a1 := h.a1; have b0 := h.b0; have b1 := h.b1
    refine ⟨⟨⟨by omega, by omega⟩, by omega, by omega⟩, h.six, fun y hy => ?_⟩
    have hl := h.legs y hy
    have : 0 ≤ y.f ∧ y.f < y.t ∧ y.t ≤ g.h ∧ 1 ≤ y.time ∧ y.time ≤ 50 ∧ 0 ≤ y.cost ∧ y.cost ≤ 1000 := by simpa [legOk] using hl
    exact ⟨⟨by omega, by omega⟩, ⟨by omega, by omega⟩, ⟨by omega, by omega⟩, by omega, by omega⟩
theorem vertexT_len {x : IvlD} (h : I64 x.f ∧ I64 x.t) : (vertexT x).length ≤ 100 := by
  have := lineT_len (word := wVertex) (l := [x.f, x.t]) (by simp [h])
  unfold vertexT
  simp [wVertex] at this ⊢
  omega
theorem legT_len {x : LegD} (h : I64 x.f ∧ I64 x.t ∧ I64 x.time ∧ I64 x.cost) : (legT x).length ≤ 100 := by
  have := lineT_len (word := wLeg) (l := [x.f, x.t, x.time, x.cost]) (by simp [h])
  unfold legT
  simp [wLeg] at this ⊢
  omega
theorem edgeL_len {x : EdgeD} (h : I64 x.a ∧ I64 x.b) : (lineT wEdge [x.a, x.b]).length ≤ 100 := by
  have := lineT_len (word := wEdge) (l := [x.a, x.b]) (by simp [h])
  simp [wEdge] at this ⊢
  omega
theorem timeL_len {n : Int} (h : I64 n) : (lineT wTime [n]).length ≤ 100 := by
  have := lineT_len (word := wTime) (l := [n]) (by simp [h])
  simp [wTime] at this ⊢
  omega
theorem edgeT_len {g : GraphD} (hV : Valid g) {x : EdgeD} (hx : x ∈ g.edges) : (edgeT x).length ≤ 700 := by
  have h := (valid_small hV).2.2 x hx
  have h1 := edgeL_len h.1
  have h2 := flat_len (f := legT) (l := x.legs) (m := 100) fun y hy => legT_len (h.2.2 y hy)
  have h3 := h.2.1
  unfold edgeT
  rw [List.length_append]
  omega
theorem take_memP {α : Type} {l : List α} {k : Nat} {x : α} (h : x ∈ l.take k) : x ∈ l := List.mem_of_mem_take h
theorem head_len {g : GraphD} (hV : Valid g) (k j : Nat) : (lineT wTime [g.h] ++ (g.lives.take k).flatMap vertexT ++ (g.edges.take j).flatMap edgeT).length ≤ 30000 := by
  have h := valid_small hV
  have h1 := timeL_len h.1
  have h2 := flat_len (f := vertexT) (l := g.lives.take k) (m := 100) fun y hy => vertexT_len (h.2.1 y (take_memP hy))
  have h3 := flat_len (f := edgeT) (l := g.edges.take j) (m := 700) fun y hy => edgeT_len hV (take_memP hy)
  have h4 := hV.nl; have h5 := hV.ne
  rw [List.length_append, List.length_append]
  rw [List.length_take] at h2 h3
  have : min k g.lives.length ≤ 12 := by omega
  have : min j g.edges.length ≤ 30 := by omega
  have : min k g.lives.length * 100 ≤ 12 * 100 := Nat.mul_le_mul_right _ (by omega)
  have : min j g.edges.length * 700 ≤ 30 * 700 := Nat.mul_le_mul_right _ (by omega)
  omega
theorem legs_len {g : GraphD} (hV : Valid g) {x : EdgeD} (hx : x ∈ g.edges) (i : Nat) : (lineT wEdge [x.a, x.b] ++ (x.legs.take i).flatMap legT).length ≤ 1000 := by
  have h := (valid_small hV).2.2 x hx
  have h1 := edgeL_len h.1
  have h2 := flat_len (f := legT) (l := x.legs.take i) (m := 100) fun y hy => legT_len (h.2.2 y (take_memP hy))
  have h3 := h.2.1
  rw [List.length_append]
  rw [List.length_take] at h2
  have : min i x.legs.length * 100 ≤ 6 * 100 := Nat.mul_le_mul_right _ (by omega)
  omega
set_option maxRecDepth 100000 in
set_option maxHeartbeats 8000000 in
theorem print_main (A A' : Option Addr) (c c' : Nat) (g : GraphD) (w : World) (hG : GraphAt w A c A' c' g) (hV : Valid g) (ht : ITab w) :
    Calls Tryd.prog 10 #[gV A c A' c' g] w fun e w' => e = .returned (.tuple #[.string (bs (graphT g)), .int .i64 0]) ∧ Below w.heap.size w w' := by
  have HV := Lib.hid (valid_ok hV)
  have HVV := Lib.hid hV
  have HSM := Lib.hid (valid_small hV)
  have hnl := hV.nl; have hne := hV.ne
  have HTT := Lib.hid ht
  clear ht
  go_enter Tryd.func10, Tryd.ntmps10
  go_wp2_with fail
  refine (check_any _ _ _ _ g _ (hG.ext (by go_grown))).mono ?_
  rw [HV.out]
  rintro e w1 ⟨rfl, hb1⟩
  obtain ⟨B0, c1, c2, c3⟩ := (Blk.new w 25 (gC A c A' c' g)).go hb1
  have hb2 : Below w.heap.size w w1 := ext_trans (by go_grown) hb1
  have hG1 := hG.ext hb2
  have HT1 := Lib.hid (HTT.out.ext hb2)
  clear hb1 hG
  go_wp2_with fail
  obtain ⟨wa, hwa⟩ : ∃ x, x = (w1.alloc (Obj.cells #[.pointer none, .slice none 0 0] 81)).alloc (Obj.cells #[.int .i64 g.h] 3) := ⟨_, rfl⟩
  have hW : BAt w1.heap.size w1.heap.size [] wa := by rw [hwa]; exact Lib.IsBuilderF.alloc (Lib.IsBuilderF.of (Lib.fresh_isBuilder 81 5 w1)) _
  have hIa : IntsAt wa (some ⟨w1.heap.size + 1, 0, none⟩) 1 [g.h] := by rw [hwa]; exact ints_of_blk (Blk.new_ (by simp)) rfl rfl (by decide) (by simpa using HSM.out.1)
  have hba : Below w1.heap.size w1 wa := by rw [hwa]; exact ext_alloc (ext_alloc (Below.refl _ w1) _) _
  rw [← hwa]
  clear hwa
  refine (gLine_any wTime _ 1 [g.h] wa hIa (by decide) (by simp) (HT1.out.ext hba)).mono ?_
  rintro e w2 ⟨rfl, hbl⟩
  have hW : BAt w1.heap.size w1.heap.size [] w2 := BAt.ext hW hbl
  have hb12 := ext_trans hba hbl
  have htl := timeL_len HSM.out.1
  have hzz := hb12.size
  clear hIa hba hbl
  go_wp2_with fail
  refine (writeString_any w1.heap.size w1.heap.size [] (lineT wTime [g.h]) _ hW (by simp; omega) hzz).mono ?_
  rintro e w3 ⟨rfl, hW3, hb3, hk3⟩
  have hb4 : Below w1.heap.size w1 w3 := hb12.trans hb3
  have HI0 : Hid (lineT wTime [g.h] = lineT wTime [g.h] ++ (g.lives.take 0).flatMap vertexT) := Lib.hid (by simp)
  rw [List.nil_append, HI0.out] at hW3
  have hGn := hG1.ext hb4
  have hB1 := B0.ext hb4
  obtain ⟨d1, d2, d3⟩ := hB1.facts
  clear c1 c2 c3 hW hb12 hb3 hk3 htl hzz
  go_wp2_with fail
  go_loopw [25] (fun kk wr => ∃ k : Nat, k ≤ g.lives.length ∧ kk = .int .i64 k ∧ BAt w1.heap.size w1.heap.size (lineT wTime [g.h] ++ (g.lives.take k).flatMap vertexT) wr ∧ Below w1.heap.size w1 wr) (fun kk _ => g.lives.length - (intOf kk).toNat)
  case atStart => exact ⟨0, Nat.zero_le _, rfl, hW3, hb4⟩
  case round =>
    clear hW3 hb4 hGn hB1 d1 d2 d3
    obtain ⟨k, hk, rfl, hW, hb⟩ := hrel
    have hGr := hG1.ext hb
    have hwl := hb.size
    by_cases hlt : k < g.lives.length
    case pos =>
      obtain ⟨x, hx⟩ := get_lt hlt
      obtain ⟨be, oe, hE⟩ := hGr.lives
      obtain ⟨rfl, hbe, ⟨⟨x0, x1⟩, _⟩⟩ := hE k x hx
      have x0' : wr.cell? _ = _ := x0
      have x1' : wr.cell? _ = _ := x1
      have hxl := HSM.out.2.1 x (List.mem_of_getElem? hx)
      have HI2 : Hid (lineT wTime [g.h] ++ (g.lives.take (k + 1)).flatMap vertexT = lineT wTime [g.h] ++ (g.lives.take k).flatMap vertexT ++ vertexT x) := Lib.hid (by rw [flat_take hx, List.append_assoc])
      have hvl := vertexT_len hxl
      have hal := head_len HVV.out k 0
      obtain ⟨acc, hacc⟩ : ∃ acc, lineT wTime [g.h] ++ (g.lives.take k).flatMap vertexT = acc := ⟨_, rfl⟩
      rw [hacc] at HI2 hW
      rw [hacc, List.take_zero, List.flatMap_nil, List.append_nil] at hal
      clear hE hx x0 x1 hacc
      obtain ⟨wo, rfl⟩ : ∃ wo : World, wo = wr := ⟨_, rfl⟩
      go_wp2_with fail
      have hba := ext_alloc (ext_alloc (Below.refl _ wo) (Obj.cells #[.int .i64 x.f, .int .i64 x.t] 49)) (Obj.cells #[.int .i64 x.f, .int .i64 x.t] 3)
      have hIa : IntsAt ((wo.alloc (Obj.cells #[.int .i64 x.f, .int .i64 x.t] 49)).alloc (Obj.cells #[.int .i64 x.f, .int .i64 x.t] 3)) (some ⟨wo.heap.size + 1, 0, none⟩) 2 [x.f, x.t] := ints_of_blk (Blk.new_ (by simp)) rfl rfl (by decide) (by simpa using hxl)
      refine (gLine_any wVertex _ 2 [x.f, x.t] _ hIa (by decide) (by simp) ((HT1.out.ext hb).ext hba)).mono ?_
      rintro e w2 ⟨rfl, hbl⟩
      have hba := ext_trans hba hbl
      have hW2 : BAt w1.heap.size w1.heap.size acc w2 := BAt.ext hW hba
      have hb5 : Below w1.heap.size w1 w2 := hb.trans (hba.mono hwl)
      have hz5 := hb5.size
      clear hIa hbl hW
      go_wp2_with fail
      refine (writeString_any w1.heap.size w1.heap.size acc (vertexT x) _ hW2 (by omega) hz5).mono ?_
      rintro e w3 ⟨rfl, hW3, hb3, hk3⟩
      go_wp2_with fail
      go_roundw
      case rel => exact ⟨k + 1, by omega, by go_num, by rw [HI2.out]; exact hW3, hb5.trans hb3⟩
      case measure => simp [intOf]; omega
    have HI3 : Hid (lineT wTime [g.h] ++ (g.lives.take k).flatMap vertexT = lineT wTime [g.h] ++ g.lives.flatMap vertexT ++ (g.edges.take 0).flatMap edgeT) := Lib.hid (by rw [List.take_of_length_le (by omega)]; simp)
    rw [HI3.out] at hW
    have hB1 := B0.ext hb
    obtain ⟨d1, d2, d3⟩ := hB1.facts
    go_wp2_with fail
    go_loopw [40] (fun jj wr => ∃ j : Nat, j ≤ g.edges.length ∧ jj = .int .i64 j ∧ BAt w1.heap.size w1.heap.size (lineT wTime [g.h] ++ g.lives.flatMap vertexT ++ (g.edges.take j).flatMap edgeT) wr ∧ Below w1.heap.size w1 wr) (fun jj _ => g.edges.length - (intOf jj).toNat)
    case atStart => exact ⟨0, Nat.zero_le _, rfl, hW, hb⟩
    case round =>
      clear hW hb hB1 d1 d2 d3 hwl hGr
      obtain ⟨j, hj, rfl, hW, hb⟩ := hrel
      have hwl := hb.size
      have hal := head_len HVV.out g.lives.length j
      rw [List.take_length] at hal
      by_cases hltj : j < g.edges.length
      case neg =>
        have HE : Hid (lineT wTime [g.h] ++ g.lives.flatMap vertexT ++ (g.edges.take j).flatMap edgeT = graphT g) := Lib.hid (by rw [List.take_of_length_le (by omega)]; rfl)
        rw [HE.out] at hW
        clear hal
        go_wp2_with fail
        refine (Txt.Builder_String_any_k w1.heap.size w1.heap.size (graphT g) _ hW hwl).mono ?_
        rintro e w3 ⟨rfl, hW3, hb3, hk3⟩
        go_wp2_with fail
        go_ret2
        exact ⟨rfl, ext_trans hb2 (hb.trans hb3)⟩
      case pos =>
        obtain ⟨x, hx⟩ := get_lt hltj
        have hxm := List.mem_of_getElem? hx
        obtain ⟨be, oe, hE⟩ := hG1.edges
        obtain ⟨rfl, hbe0, ⟨⟨x0, x1, L, cl, x2, hl1, hl2, hL⟩, _⟩⟩ := hE j x hx
        have x0' := x0.now hb
        have x1' := x1.now hb
        have x2' := x2.now hb
        have hbe : be < wr.heap.size := by have := hb.size; omega
        have hxe := HSM.out.2.2 x hxm
        have h6 := hxe.2.1
        have hel := edgeL_len hxe.1
        have HLL := Lib.hid (fun i => legs_len HVV.out hxm i)
        have HXE := Lib.hid hxe
        have HI2 : Hid (lineT wTime [g.h] ++ g.lives.flatMap vertexT ++ (g.edges.take (j + 1)).flatMap edgeT = lineT wTime [g.h] ++ g.lives.flatMap vertexT ++ (g.edges.take j).flatMap edgeT ++ (lineT wEdge [x.a, x.b] ++ (x.legs.take x.legs.length).flatMap legT)) := Lib.hid (by rw [flat_take hx, List.take_length, ← List.append_assoc]; rfl)
        obtain ⟨acc, hacc⟩ : ∃ acc, lineT wTime [g.h] ++ g.lives.flatMap vertexT ++ (g.edges.take j).flatMap edgeT = acc := ⟨_, rfl⟩
        rw [hacc] at HI2 hW hal
        clear hE hx x0 x1 x2 hacc hxm hxe
        obtain ⟨wo, rfl⟩ : ∃ wo : World, wo = wr := ⟨_, rfl⟩
        go_wp2_with fail
        have hba := ext_alloc (ext_alloc (Below.refl _ wo) (Obj.cells #[.int .i64 x.a, .int .i64 x.b, .slice L x.legs.length cl] 74)) (Obj.cells #[.int .i64 x.a, .int .i64 x.b] 3)
        have BE := (Blk.new wo 74 #[.int .i64 x.a, .int .i64 x.b, .slice L x.legs.length cl]).alloc (Obj.cells #[.int .i64 x.a, .int .i64 x.b] 3)
        have hIa : IntsAt ((wo.alloc (Obj.cells #[.int .i64 x.a, .int .i64 x.b, .slice L x.legs.length cl] 74)).alloc (Obj.cells #[.int .i64 x.a, .int .i64 x.b] 3)) (some ⟨wo.heap.size + 1, 0, none⟩) 2 [x.a, x.b] := ints_of_blk (Blk.new_ (by simp)) rfl rfl (by decide) (by simpa using HXE.out.1)
        refine (gLine_any wEdge _ 2 [x.a, x.b] _ hIa (by decide) (by simp) ((HT1.out.ext hb).ext hba)).mono ?_
        rintro e w2 ⟨rfl, hbl⟩
        have BE := BE.ext hbl
        have hba := ext_trans hba hbl
        have hW2 : BAt w1.heap.size w1.heap.size acc w2 := BAt.ext hW hba
        have hb5 : Below w1.heap.size w1 w2 := hb.trans (hba.mono hwl)
        have hz5 := hb5.size
        have hbb : w1.heap.size < wo.heap.size := BAt.lt hW
        clear hIa hbl hW
        go_wp2_with fail
        refine (writeString_any w1.heap.size w1.heap.size acc (lineT wEdge [x.a, x.b]) _ hW2 (by omega) hz5).mono ?_
        rintro e w3 ⟨rfl, hW3, hb3, hk3⟩
        have BE := OthersKept.blk hk3 BE (by omega) (by decide)
        obtain ⟨f1, f2, f3⟩ := BE.facts
        have hb6 := hb5.trans hb3
        obtain ⟨bl, ol, hLL⟩ := hL
        have HI4 : Hid (acc ++ lineT wEdge [x.a, x.b] = acc ++ (lineT wEdge [x.a, x.b] ++ (x.legs.take 0).flatMap legT)) := Lib.hid (by simp)
        rw [HI4.out] at hW3
        clear x0' x1' x2' hW2 hb3 hk3 hb5 hz5 hba
        go_wp2_with fail
        go_loopw [54] (fun ii wr => ∃ i : Nat, i ≤ x.legs.length ∧ ii = .int .i64 i ∧ BAt w1.heap.size w1.heap.size (acc ++ (lineT wEdge [x.a, x.b] ++ (x.legs.take i).flatMap legT)) wr ∧ Below w1.heap.size w1 wr) (fun ii _ => x.legs.length - (intOf ii).toNat)
        case atStart => exact ⟨0, Nat.zero_le _, rfl, hW3, hb6⟩
        case round =>
          clear hW3 hb6 BE f1 f2 f3
          obtain ⟨i, hi', rfl, hW, hb⟩ := hrel
          have hwl := hb.size
          have hal2 := HLL.out i
          by_cases hlti : i < x.legs.length
          case neg =>
            obtain rfl : i = x.legs.length := by omega
            go_wp2_with fail
            go_roundw
            case rel => exact ⟨j + 1, by omega, by go_num, by rw [HI2.out]; exact hW, hb⟩
            case measure => simp [intOf]; omega
          obtain ⟨lg, hlg⟩ := get_lt hlti
          obtain ⟨rfl, hbl0, ⟨⟨l0, l1, l2, l3⟩, _⟩⟩ := hLL i lg hlg
          have l0' := l0.now hb
          have l1' := l1.now hb
          have l2' := l2.now hb
          have l3' := l3.now hb
          have hbl : bl < wr.heap.size := by have := hb.size; omega
          have hlo := HXE.out.2.2 lg (List.mem_of_getElem? hlg)
          have hle := legT_len hlo
          have HI5 : Hid (acc ++ (lineT wEdge [x.a, x.b] ++ (x.legs.take (i + 1)).flatMap legT) = acc ++ (lineT wEdge [x.a, x.b] ++ (x.legs.take i).flatMap legT) ++ legT lg) := Lib.hid (by rw [flat_take hlg]; simp only [List.append_assoc])
          obtain ⟨ac2, hac2⟩ : ∃ ac2, acc ++ (lineT wEdge [x.a, x.b] ++ (x.legs.take i).flatMap legT) = ac2 := ⟨_, rfl⟩
          have hal3 : ac2.length ≤ 40000 := by rw [← hac2, List.length_append]; omega
          rw [hac2] at HI5 hW
          clear hlg l0 l1 l2 l3 hac2 hal2
          obtain ⟨wo2, rfl⟩ : ∃ wo : World, wo = wr := ⟨_, rfl⟩
          go_wp2_with fail
          have hba := ext_alloc (ext_alloc (Below.refl _ wo2) (Obj.cells #[.int .i64 lg.f, .int .i64 lg.t, .int .i64 lg.time, .int .i64 lg.cost] 76)) (Obj.cells #[.int .i64 lg.f, .int .i64 lg.t, .int .i64 lg.time, .int .i64 lg.cost] 3)
          have hIa : IntsAt ((wo2.alloc (Obj.cells #[.int .i64 lg.f, .int .i64 lg.t, .int .i64 lg.time, .int .i64 lg.cost] 76)).alloc (Obj.cells #[.int .i64 lg.f, .int .i64 lg.t, .int .i64 lg.time, .int .i64 lg.cost] 3)) (some ⟨wo2.heap.size + 1, 0, none⟩) 4 [lg.f, lg.t, lg.time, lg.cost] := ints_of_blk (Blk.new_ (by simp)) rfl rfl (by decide) (by simpa using hlo)
          refine (gLine_any wLeg _ 4 [lg.f, lg.t, lg.time, lg.cost] _ hIa (by decide) (by simp) ((HT1.out.ext hb).ext hba)).mono ?_
          rintro e w4 ⟨rfl, hbl4⟩
          have hba := ext_trans hba hbl4
          have hW2 : BAt w1.heap.size w1.heap.size ac2 w4 := BAt.ext hW hba
          have hb5 : Below w1.heap.size w1 w4 := hb.trans (hba.mono hwl)
          have hz5 := hb5.size
          clear hIa hbl4 hW
          go_wp2_with fail
          refine (writeString_any w1.heap.size w1.heap.size ac2 (legT lg) _ hW2 (by omega) hz5).mono ?_
          rintro e w5 ⟨rfl, hW5, hb7, hk7⟩
          go_wp2_with fail
          go_roundw
          case rel => exact ⟨i + 1, by omega, by go_num, by rw [HI5.out]; exact hW5, hb5.trans hb7⟩
          case measure => simp [intOf]; omega
set_option maxHeartbeats 1000000 in
theorem print_any (A A' : Option Addr) (c c' : Nat) (g : GraphD) (w : World) (hG : GraphAt w A c A' c' g) (ht : ITab w) :
    Calls Tryd.prog 10 #[gV A c A' c' g] w fun e w' => e = .returned (.tuple #[.string (bs (if graphErr g = 0 then graphT g else [])), .int .i64 (graphErr g)]) ∧ Below w.heap.size w w' := by
  by_cases h0 : graphErr g = 0
  · rw [if_pos h0, h0]
    exact print_main A A' c c' g w hG (valid_of h0) ht
  · rw [if_neg h0]
    have hn : (graphErr g != 0) = true := by simp [h0]
    clear h0 ht
    go_enter Tryd.func10, Tryd.ntmps10
    go_wp2_with fail
    refine (check_any _ _ _ _ g _ (hG.ext (by go_grown))).mono ?_
    rintro e w1 ⟨rfl, hb1⟩
    have hb2 : Below w.heap.size w w1 := ext_trans (by go_grown) hb1
    go_wp2_with fail
    go_ret2
    exact ⟨rfl, hb2⟩
end Go.Proofs.YtdpibehpmghghaaDoor
/- The snapshot of a time, as plain lists. -/
namespace Go.Proofs.YtdpibehpmghghaaDoor
open Go.RowKit

def snapL (g : GraphD) (t : Int) : List Bool := (List.range g.lives.length).map fun (k : Nat) => aliveB g (k : Int) t
/-- The arc that an edge is at a time; or none. -/
def arcOf (g : GraphD) (t : Int) (x : EdgeD) : List ArcD := match leaves t x.legs with
  | some l => if aliveB g x.a t = true ∧ aliveB g x.b t = true then [⟨x.a, x.b, l.cost⟩] else []
  | none => []
def arcsL (g : GraphD) (t : Int) (l : List EdgeD) : List ArcD := l.flatMap (arcOf g t)
def snapD (g : GraphD) (t : Int) : SnapD := ⟨snapL g t, arcsL g t g.edges⟩
def atErr (g : GraphD) (t : Int) : Int := if graphErr g = 0 then (if 0 ≤ t ∧ t ≤ g.h - 1 then 0 else 1) else graphErr g
def atD (g : GraphD) (t : Int) : SnapD := if atErr g t = 0 then snapD g t else ⟨[], []⟩
theorem snapL_len (g : GraphD) (t : Int) : (snapL g t).length = g.lives.length := by simp [snapL]
theorem snapL_get {g : GraphD} {t : Int} {k : Nat} (h : k < g.lives.length) : (snapL g t)[k]? = some (aliveB g k t) := by simp [snapL, h]
theorem snapL_at {g : GraphD} {t v : Int} (h0 : 0 ≤ v) (h : v < g.lives.length) : (snapL g t)[v.toNat]? = some (aliveB g v t) := by
  rw [snapL_get (by omega), Int.toNat_of_nonneg h0]
theorem snapL_take {g : GraphD} {t : Int} {k : Nat} (h : k < g.lives.length) : (snapL g t).take (k + 1) = (snapL g t).take k ++ [aliveB g k t] := by
  rw [List.take_add_one, snapL_get h]; rfl
theorem snapL_end {g : GraphD} {t : Int} {k : Nat} (h : g.lives.length ≤ k) : (snapL g t).take k = snapL g t := List.take_of_length_le (by rw [snapL_len]; exact h)
theorem arcOf_no {g : GraphD} {t : Int} {x : EdgeD} (h : leaves t x.legs = none) : arcOf g t x = [] := by simp [arcOf, h]
theorem arcOf_a {g : GraphD} {t : Int} {x : EdgeD} (h : aliveB g x.a t = false) : arcOf g t x = [] := by
  unfold arcOf; split <;> simp [h]
theorem arcOf_b {g : GraphD} {t : Int} {x : EdgeD} (h : aliveB g x.b t = false) : arcOf g t x = [] := by
  unfold arcOf; split <;> simp [h]
theorem arcOf_yes {g : GraphD} {t : Int} {x : EdgeD} {l : LegD} (h : leaves t x.legs = some l) (ha : aliveB g x.a t = true) (hb : aliveB g x.b t = true) : arcOf g t x = [⟨x.a, x.b, l.cost⟩] := by simp [arcOf, h, ha, hb]
theorem arcsL_snoc (g : GraphD) (t : Int) {l : List EdgeD} {j : Nat} {x : EdgeD} (h : l[j]? = some x) : arcsL g t (l.take (j + 1)) = arcsL g t (l.take j) ++ arcOf g t x := by
  rw [List.take_add_one, h]; simp [arcsL]
theorem arcsL_mem {g : GraphD} {t : Int} {l : List EdgeD} {y : ArcD} (h : y ∈ arcsL g t l) : ∃ x lg, x ∈ l ∧ leaves t x.legs = some lg ∧ lg ∈ x.legs ∧ aliveB g x.a t = true ∧ aliveB g x.b t = true ∧ y = ⟨x.a, x.b, lg.cost⟩ := by
  simp only [arcsL, List.mem_flatMap] at h
  obtain ⟨x, hx, hy⟩ := h
  unfold arcOf at hy
  split at hy
  · rename_i lg hl
    split at hy
    · rename_i hab
      exact ⟨x, lg, hx, hl, (leaves_mem hl).1, hab.1, hab.2, by simpa using hy⟩
    · simp at hy
  · simp at hy
theorem atD_0 {g : GraphD} {t : Int} (h : atErr g t = 0) : atD g t = snapD g t := by unfold atD; rw [if_pos h]
theorem atD_no {g : GraphD} {t : Int} (h : ¬ atErr g t = 0) : atD g t = ⟨[], []⟩ := by unfold atD; rw [if_neg h]
end Go.Proofs.YtdpibehpmghghaaDoor
/- Snapshots in memory: lists of marks and of arcs that a call builds. -/
namespace Go.Proofs.YtdpibehpmghghaaDoor
open Go.RowKit

def markEnc (x : Bool) : List Value := [.bool x]
def arcEnc (x : ArcD) : List Value := [.int .i64 x.a, .int .i64 x.b, .int .i64 x.cost]
theorem info_mark : (Tryd.prog.info? 4).map (fun i => (i.zero, i.size, i.bytes)) = some (some (.bool false), 1, 1) := by kernel_rfl
theorem info_mark2 : ∃ i, Tryd.prog.info? 4 = some i ∧ i.zero = some (.bool false) ∧ i.size = 1 ∧ i.bytes = 1 := by
  obtain ⟨i0, hi, hzz⟩ := Option.map_eq_some_iff.1 info_mark
  simp only [Prod.mk.injEq] at hzz
  exact ⟨i0, hi, hzz.1, hzz.2.1, hzz.2.2⟩
theorem info_arc : (Tryd.prog.info? 42).map (fun i => (i.zero, i.size, i.bytes)) = some (some (.agg #[.int .i64 0, .int .i64 0, .int .i64 0]), 3, 24) := by kernel_rfl
theorem info_arc2 : ∃ i, Tryd.prog.info? 42 = some i ∧ i.zero = some (.agg #[.int .i64 0, .int .i64 0, .int .i64 0]) ∧ i.size = 3 ∧ i.bytes = 24 := by
  obtain ⟨i0, hi, hzz⟩ := Option.map_eq_some_iff.1 info_arc
  simp only [Prod.mk.injEq] at hzz
  exact ⟨i0, hi, hzz.1, hzz.2.1, hzz.2.2⟩
theorem mark_one {x : Bool} : ∀ u ∈ (#[.bool x] : Array Value).toList, u.oneCell' = true := by simp [Value.oneCell']
theorem arc_one {a b c : Int} : ∀ u ∈ (#[.int .i64 a, .int .i64 b, .int .i64 c] : Array Value).toList, u.oneCell' = true := by simp [Value.oneCell']
theorem own_marks {w : World} {base : Nat} {v : Value} {l : List Bool} (h : Own markEnc 1 w base 4 v l) : ∃ A c, v = .slice A l.length c ∧ SlAt RBool 1 w A l :=
  Own.slAt (R := RBool) (enc := markEnc) (fun _ => rfl) (fun x _ b o hc => by have := hc 0 _ rfl; simpa [RBool] using this) h
theorem own_arcs {w : World} {base : Nat} {v : Value} {l : List ArcD} (h : Own arcEnc 3 w base 42 v l) (hi : ∀ x, x ∈ l → I64 x.a ∧ I64 x.b ∧ I64 x.cost) : ∃ A c, v = .slice A l.length c ∧ SlAt RArc 3 w A l :=
  Own.slAt (R := RArc) (enc := arcEnc) (fun _ => rfl) (fun x hx b o hc => by
    have h0 := hc 0 _ rfl
    have h1 := hc 1 _ rfl
    have h2 := hc 2 _ rfl
    exact ⟨⟨by simpa using h0, h1, h2⟩, hi x hx⟩) h
/-- A snapshot that a call tells, in memory of its own. -/
def SnapNew (base : Nat) (w : World) (A : Option Addr) (c : Nat) (A' : Option Addr) (c' : Nat) (s : SnapD) : Prop :=
  SnapAt w A c A' c' s ∧ Own markEnc 1 w base 4 (.slice A s.alive.length c) s.alive ∧ Own arcEnc 3 w base 42 (.slice A' s.arcs.length c') s.arcs
theorem SnapNew.ext {base : Nat} {w w' : World} {A A' : Option Addr} {c c' : Nat} {s : SnapD} (h : SnapNew base w A c A' c' s) (hb : Below w.heap.size w w') : SnapNew base w' A c A' c' s :=
  ⟨h.1.ext hb, h.2.1.ext hb, h.2.2.ext hb⟩
theorem snap_zero (base : Nat) (w : World) : SnapNew base w none 0 none 0 ⟨[], []⟩ := ⟨⟨Nat.le_refl _, Nat.zero_le _, Nat.le_refl _, Nat.zero_le _, SlAt.nil, SlAt.nil⟩, Own.nil, Own.nil⟩
theorem Valid.arcs {g : GraphD} (hV : Valid g) (t : Int) : ∀ y, y ∈ arcsL g t g.edges → I64 y.a ∧ I64 y.b ∧ I64 y.cost := fun y hy => by
  obtain ⟨x, lg, hx, _, hm, _, _, rfl⟩ := arcsL_mem hy
  have h := hV.edges x hx
  have h1 := h.a0; have h2 := h.a1; have h3 := h.b0; have h4 := h.b1; have h5 := hV.nl
  have h6 := h.legs lg hm
  unfold I64
  refine ⟨⟨by simp only; omega, by simp only; omega⟩, ⟨by simp only; omega, by simp only; omega⟩, by simp only; omega, by simp only; omega⟩
theorem snap_new {base : Nat} {w : World} {g : GraphD} {t : Int} {A A' : Option Addr} {c c' : Nat} (hV : Valid g) (h1 : Own markEnc 1 w base 4 (.slice A (snapL g t).length c) (snapL g t)) (h2 : Own arcEnc 3 w base 42 (.slice A' (arcsL g t g.edges).length c') (arcsL g t g.edges)) :
    SnapNew base w A c A' c' (snapD g t) := by
  refine ⟨⟨h1.room.1, h1.room.2, h2.room.1, h2.room.2, ?_, ?_⟩, h1, h2⟩
  · obtain ⟨B, d, hv, hS⟩ := own_marks h1
    injection hv with e1
    subst e1
    exact hS
  · obtain ⟨B, d, hv, hS⟩ := own_arcs h2 (hV.arcs t)
    injection hv with e1
    subst e1
    exact hS
end Go.Proofs.YtdpibehpmghghaaDoor
/- The walks of one step: alive, the leg of a time, when one comes; the program's and the document's. -/
namespace Go.Proofs.YtdpibehpmghghaaDoor
open Go.RowKit

set_option maxHeartbeats 400000 in
theorem alive_any (A A' : Option Addr) (c c' : Nat) (g : GraphD) (v t : Int) (w : World) (hG : GraphAt w A c A' c' g) (h0 : 0 ≤ v) (h1 : v < g.lives.length) :
    Calls Tryd.prog 36 #[gV A c A' c' g, .int .i64 v, .int .i64 t] w fun e w' => e = .returned (.bool (aliveB g v t)) ∧ Below w.heap.size w w' := by
  obtain ⟨b, off, hL⟩ := hG.lives
  obtain ⟨y, hy⟩ := get_lt (show v.toNat < g.lives.length by omega)
  obtain ⟨rfl, hb0, ⟨⟨x0, x1⟩, _⟩⟩ := hL _ y hy
  unfold cellIs at x0 x1
  have HA := Lib.hid (aliveB_of (t := t) hy)
  clear hL hy
  by_cases h2 : y.f ≤ t
  all_goals
    go_enter Tryd.func36, Tryd.ntmps36
    go_wp2
    go_ret
    exact ⟨ret_bool (by rw [HA.out]; first | (rw [Bool.eq_iff_iff]; simp; omega) | (symm; simp; omega)), by go_grown⟩

set_option maxHeartbeats 400000 in
theorem refAlive_any (A A' : Option Addr) (c c' : Nat) (g : GraphD) (v t : Int) (w : World) (hG : GraphAt w A c A' c' g) (h0 : 0 ≤ v) (h1 : v < g.lives.length) :
    Calls Tryd.prog 38 #[gV A c A' c' g, .int .i64 v, .int .i64 t] w fun e w' => e = .returned (.bool (aliveB g v t)) ∧ Below w.heap.size w w' := by
  obtain ⟨b, off, hL⟩ := hG.lives
  obtain ⟨y, hy⟩ := get_lt (show v.toNat < g.lives.length by omega)
  obtain ⟨rfl, hb0, ⟨⟨x0, x1⟩, _⟩⟩ := hL _ y hy
  unfold cellIs at x0 x1
  have HA := Lib.hid (aliveB_of (t := t) hy)
  clear hL hy
  by_cases h2 : y.f ≤ t
  all_goals
    go_enter Tryd.func38, Tryd.ntmps38
    go_wp2
    go_ret
    exact ⟨ret_bool (by rw [HA.out]; first | (rw [Bool.eq_iff_iff]; simp; omega) | (symm; simp; omega)), by go_grown⟩

/-- The two results of looking for a leg. -/
def legsR (o : Option LegD) : Value := match o with
  | some x => .tuple #[legV x, .bool true]
  | none => .tuple #[legV ⟨0, 0, 0, 0⟩, .bool false]

set_option maxHeartbeats 1000000 in
theorem leaves_any (L : Option Addr) (cl : Nat) (x : EdgeD) (t : Int) (w : World) (hL : SlAt RLeg 4 w L x.legs) (hl : x.legs.length ≤ maxLen) :
    Calls Tryd.prog 37 #[edgeV L cl x, .int .i64 t] w fun e w' => e = .returned (legsR (leaves t x.legs)) ∧ Below w.heap.size w w' := by
  unfold maxLen at hl
  obtain ⟨b, off, hL⟩ := hL
  go_enter Tryd.func37, Tryd.ntmps37
  go_wp2
  go_loopw [11] (fun v wr => ∃ k : Nat, k ≤ x.legs.length ∧ v = .int .i64 k ∧ Hid (leaves t (x.legs.drop k) = leaves t x.legs) ∧ Below w.heap.size w wr ∧ Blk wr (w.heap.size + 1) 76 #[.int .i64 0, .int .i64 0, .int .i64 0, .int .i64 0]) (fun v _ => x.legs.length - (intOf v).toNat)
  case atStart => exact ⟨0, Nat.zero_le _, rfl, Lib.hid rfl, by go_grown, Blk.new_ (by simp)⟩
  case round =>
    obtain ⟨k, hk, rfl, HI, hb, hB⟩ := hrel
    obtain ⟨hc, hf, hz⟩ := hB.facts
    by_cases hlt : k < x.legs.length
    · obtain ⟨y, hy⟩ := get_lt hlt
      obtain ⟨rfl, hb0, ⟨⟨x0, x1, x2, x3⟩, _⟩⟩ := hL k y hy
      have y0 := x0.now hb
      have y1 := x1.now hb
      have y2 := x2.now hb
      have y3 := x3.now hb
      have hd := drop_cons hy
      have HI2 : Hid (leaves t (y :: x.legs.drop (k + 1)) = leaves t x.legs) := by rw [← hd]; exact HI
      clear hL hd hy HI x0 x1 x2 x3
      by_cases hok : y.f ≤ t ∧ t < y.t
      · obtain ⟨k1, k2⟩ := hok
        go_wp2
        refine bodyPost_ret (v := .tuple #[legV y, .bool true]) (by simp [results, Tryd.results37, go_sem, hc, hz, legV]) rfl ?_
        refine ⟨by rw [← HI2.out, leaves_hit ⟨k1, k2⟩]; rfl, ?_⟩
        exact ((((hb.setCell (by simp) _).setCell (by simp) _).setCell (by simp) _).setCell (by simp) _).alloc (by simp; omega) _
      · go_wp2
        all_goals
          go_roundw
          case rel => exact ⟨k + 1, by omega, by go_num, Lib.hid ((leaves_miss (by omega)).symm.trans HI2.out), ext_alloc hb _, hB.alloc _⟩
          case measure => simp [intOf]; omega
    · go_wp2
      refine bodyPost_ret (v := .tuple #[legV ⟨0, 0, 0, 0⟩, .bool false]) (by simp [results, Tryd.results37, go_sem, hc, legV]) rfl ?_
      refine ⟨by rw [← HI.out, drop_end (by omega)]; rfl, ?_⟩
      exact ((((hb.setCell (by simp) _).setCell (by simp) _).setCell (by simp) _).setCell (by simp) _)

set_option maxHeartbeats 1000000 in
theorem refLeg_any (L : Option Addr) (cl : Nat) (x : EdgeD) (t : Int) (w : World) (hL : SlAt RLeg 4 w L x.legs) (hl : x.legs.length ≤ maxLen) :
    Calls Tryd.prog 39 #[edgeV L cl x, .int .i64 t] w fun e w' => e = .returned (legsR (leaves t x.legs)) ∧ Below w.heap.size w w' := by
  unfold maxLen at hl
  obtain ⟨b, off, hL⟩ := hL
  go_enter Tryd.func39, Tryd.ntmps39
  go_wp2
  go_loopw [6] (fun v wr => ∃ k : Nat, k ≤ x.legs.length ∧ v = .int .i64 k ∧ Hid (leaves t (x.legs.drop k) = leaves t x.legs) ∧ Below w.heap.size w wr ∧ Blk wr w.heap.size 74 #[.int .i64 x.a, .int .i64 x.b, .slice L x.legs.length cl] ∧ Blk wr (w.heap.size + 1) 76 #[.int .i64 0, .int .i64 0, .int .i64 0, .int .i64 0]) (fun v _ => x.legs.length - (intOf v).toNat)
  case atStart => exact ⟨0, Nat.zero_le _, rfl, Lib.hid rfl, by go_grown, (Blk.new _ _ _).alloc _, Blk.new_ (by simp)⟩
  case round =>
    obtain ⟨k, hk, rfl, HI, hb, hB0, hB⟩ := hrel
    obtain ⟨hc, hf, hz⟩ := hB.facts
    obtain ⟨b1, b2, b3⟩ := hB0.facts
    by_cases hlt : k < x.legs.length
    · obtain ⟨y, hy⟩ := get_lt hlt
      obtain ⟨rfl, hb0, ⟨⟨x0, x1, x2, x3⟩, _⟩⟩ := hL k y hy
      have y0 := x0.now hb
      have y1 := x1.now hb
      have y2 := x2.now hb
      have y3 := x3.now hb
      have hd := drop_cons hy
      have HI2 : Hid (leaves t (y :: x.legs.drop (k + 1)) = leaves t x.legs) := by rw [← hd]; exact HI
      clear hL hd hy HI x0 x1 x2 x3
      by_cases hok : y.f ≤ t ∧ t < y.t
      · obtain ⟨k1, k2⟩ := hok
        go_wp2
        refine bodyPost_ret (v := .tuple #[legV y, .bool true]) (by simp [results, Tryd.results39, go_sem, hc, legV]) rfl ?_
        refine ⟨by rw [← HI2.out, leaves_hit ⟨k1, k2⟩]; rfl, ?_⟩
        exact ((((hb.setCell (by simp) _).setCell (by simp) _).setCell (by simp) _).setCell (by simp) _)
      · go_wp2
        all_goals
          go_roundw
          case rel => exact ⟨k + 1, by omega, by go_num, Lib.hid ((leaves_miss (by omega)).symm.trans HI2.out), hb, hB0, hB⟩
          case measure => simp [intOf]; omega
    · go_wp2
      refine bodyPost_ret (v := .tuple #[legV ⟨0, 0, 0, 0⟩, .bool false]) (by simp [results, Tryd.results39, go_sem, hc, legV]) rfl ?_
      refine ⟨by rw [← HI.out, drop_end (by omega)]; rfl, ?_⟩
      exact ((((hb.setCell (by simp) _).setCell (by simp) _).setCell (by simp) _).setCell (by simp) _)
end Go.Proofs.YtdpibehpmghghaaDoor
