/- The walk of pack.Encode: it tells a graph's bytes. -/
import Derived.Test.YtcgnalpcbcpmkaaPut
import Derived.Test.YtcgnalpcbcpmkaaCheck
namespace Go.Proofs.Ytcgnalpcbcpmkaa
open Go.RowKit

theorem bytes_append (a b : List Int) : bytesL (a ++ b) = bytesL a ++ bytesL b := by simp [bytesL]
theorem bytes_len (a : List Int) : (bytesL a).length ≤ a.length * 2 := len_flatMap_le a (fun _ _ => by simp)

set_option maxRecDepth 100000 in
set_option maxHeartbeats 4000000 in
theorem encode_main (A A' : Option Addr) (c c' : Nat) (g : GraphD) (w : World) (hG : GraphAt w A c A' c' g) (hV : Valid g) :
    Calls Try.prog 33 #[gV A c A' c' g] w fun e w' => e = .returned (.tuple #[.string (coded g), .int .i64 0]) ∧ Below w.heap.size w w' := by
  have HN := Lib.hid (nums_num hV)
  have HV := Lib.hid (valid_ok hV)
  have hnl := hV.nl; have hne := hV.ne; have hh0 := hV.h0; have hh1 := hV.h1
  obtain ⟨i0, hi, hz0, hz1, hz2⟩ := info_parts' info_byte
  have HL : Hid ((bytesL (numsL g)).length ≤ 1800) := Lib.hid (by have := bytes_len (numsL g); have := HN.out.2; omega)
  go_enter Try.func33, Try.ntmps33
  go_wp2_with fail
  refine (check_any _ _ _ _ g _ (hG.ext (by go_grown))).mono ?_
  rw [HV.out]
  rintro e w1 ⟨rfl, hb1⟩
  obtain ⟨B0, c1, c2, c3⟩ := (Blk.new w 28 (gC A c A' c' g)).go hb1
  have hb2 : Below w.heap.size w w1 := ext_trans (by go_grown) hb1
  have hG1 := hG.ext hb2
  clear hb1 hG
  go_wp2_with fail
  refine (put_any w1.heap.size w1.heap.size (w1.heap.size + 1) 3 (.slice none 0 0) [] [g.h, (g.lives.length : Int), (g.edges.length : Int)] _ ((Blk.new w1 _ _).alloc _) Own.nil (Nat.le_refl _) (Blk.new_ (by simp)) (by omega) rfl (by simp [Num]; omega) (by simp)).mono ?_
  rintro e w2 ⟨v2, rfl, hW, hO, hb3, hk3⟩
  have hb4 : Below w1.heap.size w1 w2 := ((Below.refl _ w1).alloc (Nat.le_refl _) _ |>.alloc (by simp) _).trans hb3
  have hGn := hG1.ext hb4
  have hB1 := B0.ext hb4
  obtain ⟨d1, d2, d3⟩ := hB1.facts
  have hzw2 : w1.heap.size < w2.heap.size := hW.lt
  have HI0 : Hid (([] ++ bytesL [g.h, (g.lives.length : Int), (g.edges.length : Int)]) ++ bytesL (g.lives.flatMap lifeNums ++ g.edges.flatMap edgeNums) = bytesL (numsL g)) := Lib.hid (by rw [List.nil_append, ← bytes_append]; rfl)
  clear c1 c2 c3
  go_wp2_with fail
  go_loopw [34] (fun kk wr => ∃ (k : Nat) (acc : List Int) (v' : Value), k ≤ g.lives.length ∧ kk = .int .i64 k ∧ Blk wr w1.heap.size 118 #[v'] ∧ Own byteEnc 1 wr w1.heap.size 5 v' acc ∧ Hid (acc ++ bytesL ((g.lives.drop k).flatMap lifeNums ++ g.edges.flatMap edgeNums) = bytesL (numsL g)) ∧ Below w1.heap.size w1 wr)
    (fun kk _ => g.lives.length - (intOf kk).toNat)
  case atStart => exact ⟨0, _, v2, Nat.zero_le _, rfl, hW, hO, HI0, hb4⟩
  case round =>
    clear hW hO HI0 hb4 hb3 hk3 hGn hB1 d1 d2 d3
    obtain ⟨k, acc, v', hk, rfl, hW, hO, HI, hb⟩ := hrel
    have hGr := hG1.ext hb
    have hwl := hW.lt
    have hacc : acc.length ≤ 1800 := by
      have h1 := HL.out
      rw [← HI.out, List.length_append] at h1
      omega
    by_cases hlt : k < g.lives.length
    case pos =>
      obtain ⟨x, hx⟩ := get_lt hlt
      obtain ⟨be, oe, hE⟩ := hGr.lives
      obtain ⟨rfl, hbe, ⟨⟨x0, x1⟩, _⟩⟩ := hE k x hx
      have x0' : wr.cell? _ = _ := x0
      have x1' : wr.cell? _ = _ := x1
      have hxl := hV.lives x (List.mem_of_getElem? hx)
      have HI2 : Hid (acc ++ bytesL [x.f, x.t] ++ bytesL ((g.lives.drop (k + 1)).flatMap lifeNums ++ g.edges.flatMap edgeNums) = bytesL (numsL g)) := Lib.hid (by
        rw [← HI.out, drop_cons hx, List.flatMap_cons, List.append_assoc, List.append_assoc, ← bytes_append]; rfl)
      clear hE hx HI x0 x1
      obtain ⟨wo, rfl⟩ : ∃ wo : World, wo = wr := ⟨_, rfl⟩
      go_wp2_with fail
      refine (put_any w1.heap.size w1.heap.size (wo.heap.size + 1) 2 v' acc [x.f, x.t] _ ((hW.alloc _).alloc _) ((hO.alloc _).alloc _) (Nat.le_refl _) (Blk.new_ (by simp)) (by omega) rfl (by simp [Num]; omega) (by omega)).mono ?_
      rintro e w3 ⟨v3, rfl, hW3, hO3, hb3, hk3⟩
      have hb5 : Below w1.heap.size wo w3 := ((Below.refl _ wo).alloc (by omega) _ |>.alloc (by simp; omega) _).trans hb3
      go_wp2_with fail
      go_roundw
      case rel => exact ⟨k + 1, _, v3, by omega, by go_num, hW3, hO3, HI2, hb.trans hb5⟩
      case measure => simp [intOf]; omega
    have HI3 : Hid (acc ++ bytesL (g.edges.flatMap edgeNums) = bytesL (numsL g)) := Lib.hid (by rw [← HI.out, drop_end (by omega)]; rfl)
    clear HI
    have hB1 := B0.ext hb
    obtain ⟨d1, d2, d3⟩ := hB1.facts
    go_wp2_with fail
    go_loopw [49] (fun jj wr => ∃ (j : Nat) (acc : List Int) (v' : Value), j ≤ g.edges.length ∧ jj = .int .i64 j ∧ Blk wr w1.heap.size 118 #[v'] ∧ Own byteEnc 1 wr w1.heap.size 5 v' acc ∧ Hid (acc ++ bytesL ((g.edges.drop j).flatMap edgeNums) = bytesL (numsL g)) ∧ Below w1.heap.size w1 wr)
      (fun jj _ => g.edges.length - (intOf jj).toNat)
    case atStart => exact ⟨0, acc, v', Nat.zero_le _, rfl, hW, hO, HI3, hb⟩
    case round =>
      clear hW hO HI3 hb hB1 d1 d2 d3 hwl hacc hGr
      obtain ⟨j, acc, v', hj, rfl, hW, hO, HI, hb⟩ := hrel
      have hGr := hG1.ext hb
      have hwl := hW.lt
      have hacc : acc.length ≤ 1800 := by
        have h1 := HL.out
        rw [← HI.out, List.length_append] at h1
        omega
      by_cases hltj : j < g.edges.length
      case pos =>
        obtain ⟨x, hx⟩ := get_lt hltj
        obtain ⟨be, oe, hE⟩ := hG1.edges
        obtain ⟨rfl, hbe0, ⟨⟨x0, x1, L, cl, x2, hl1, hl2, hL⟩, _⟩⟩ := hE j x hx
        have x0' := x0.now hb
        have x1' := x1.now hb
        have x2' := x2.now hb
        have hbe : be < wr.heap.size := by have := hb.size; omega
        have hxe := hV.edges x (List.mem_of_getElem? hx)
        have h6 := hxe.six; have ha0 := hxe.a0; have ha1 := hxe.a1; have hbb0 := hxe.b0; have hbb1 := hxe.b1
        have HI2 : Hid (acc ++ bytesL [x.a, x.b, (x.legs.length : Int)] ++ bytesL (x.legs.flatMap legNums ++ (g.edges.drop (j + 1)).flatMap edgeNums) = bytesL (numsL g)) := Lib.hid (by
          rw [← HI.out, drop_cons hx, List.flatMap_cons, List.append_assoc, ← bytes_append]; simp [edgeNums])
        clear hE hx HI x0 x1 x2
        obtain ⟨wo, rfl⟩ : ∃ wo : World, wo = wr := ⟨_, rfl⟩
        go_wp2_with fail
        refine (put_any w1.heap.size w1.heap.size (wo.heap.size + 1) 3 v' acc [x.a, x.b, (x.legs.length : Int)] _ ((hW.alloc _).alloc _) ((hO.alloc _).alloc _) (Nat.le_refl _) (Blk.new_ (by simp)) (by omega) rfl (by simp [Num]; omega) (by omega)).mono ?_
        rintro e w3 ⟨v3, rfl, hW3, hO3, hb3, hk3⟩
        have BE := hk3 _ _ _ (by omega) (by decide) ((Blk.new wo 99 #[.int .i64 x.a, .int .i64 x.b, .slice L x.legs.length cl]).alloc _)
        obtain ⟨f1, f2, f3⟩ := BE.facts
        have hb5 : Below w1.heap.size wo w3 := ((Below.refl _ wo).alloc (by omega) _ |>.alloc (by simp; omega) _).trans hb3
        have hb6 := hb.trans hb5
        obtain ⟨bl, ol, hLL⟩ := hL
        clear x0' x1' x2' hW hO hb3 hk3 hb5 hacc hwl f3
        go_wp2_with fail
        go_loopw [66] (fun ii wr => ∃ (i : Nat) (acc : List Int) (v' : Value), i ≤ x.legs.length ∧ ii = .int .i64 i ∧ Blk wr w1.heap.size 118 #[v'] ∧ Own byteEnc 1 wr w1.heap.size 5 v' acc ∧ Hid (acc ++ bytesL ((x.legs.drop i).flatMap legNums ++ (g.edges.drop (j + 1)).flatMap edgeNums) = bytesL (numsL g)) ∧ Below w1.heap.size w1 wr)
          (fun ii _ => x.legs.length - (intOf ii).toNat)
        case atStart => exact ⟨0, _, v3, Nat.zero_le _, rfl, hW3, hO3, HI2, hb6⟩
        case round =>
          clear hW3 hO3 HI2 hb6 BE f1 f2
          obtain ⟨i, acc, v', hi', rfl, hW, hO, HI, hb⟩ := hrel
          have hwl := hW.lt
          have hacc : acc.length ≤ 1800 := by
            have h1 := HL.out
            rw [← HI.out, List.length_append] at h1
            omega
          by_cases hlti : i < x.legs.length
          case neg =>
            have HE : Hid (acc ++ bytesL ((g.edges.drop (j + 1)).flatMap edgeNums) = bytesL (numsL g)) := Lib.hid (by rw [← HI.out, drop_end (l := x.legs) (k := i) (by omega)]; rfl)
            go_wp2_with fail
            go_roundw
            case rel => exact ⟨j + 1, acc, v', by omega, by go_num, hW, hO, HE, hb⟩
            case measure => simp [intOf]; omega
          obtain ⟨lg, hlg⟩ := get_lt hlti
          obtain ⟨rfl, hbl0, ⟨⟨l0, l1, l2, l3⟩, _⟩⟩ := hLL i lg hlg
          have l0' := l0.now hb
          have l1' := l1.now hb
          have l2' := l2.now hb
          have l3' := l3.now hb
          have hbl : bl < wr.heap.size := by have := hb.size; omega
          have hlo := hxe.legs lg (List.mem_of_getElem? hlg)
          have HI2 : Hid (acc ++ bytesL [lg.f, lg.t, lg.time, lg.cost] ++ bytesL ((x.legs.drop (i + 1)).flatMap legNums ++ (g.edges.drop (j + 1)).flatMap edgeNums) = bytesL (numsL g)) := Lib.hid (by
            rw [← HI.out, drop_cons hlg, List.flatMap_cons, List.append_assoc, List.append_assoc, ← bytes_append]; rfl)
          clear hlg HI l0 l1 l2 l3
          obtain ⟨wo2, rfl⟩ : ∃ wo : World, wo = wr := ⟨_, rfl⟩
          go_wp2_with fail
          refine (put_any w1.heap.size w1.heap.size (wo2.heap.size + 1) 4 v' acc [lg.f, lg.t, lg.time, lg.cost] _ ((hW.alloc _).alloc _) ((hO.alloc _).alloc _) (Nat.le_refl _) (Blk.new_ (by simp)) (by omega) rfl (by simp [Num]; omega) (by omega)).mono ?_
          rintro e w4 ⟨v4, rfl, hW4, hO4, hb4, hk4⟩
          have hb5 : Below w1.heap.size wo2 w4 := ((Below.refl _ wo2).alloc (by omega) _ |>.alloc (by simp; omega) _).trans hb4
          go_wp2_with fail
          go_roundw
          case rel => exact ⟨i + 1, _, v4, by omega, by go_num, hW4, hO4, HI2, hb.trans hb5⟩
          case measure => simp [intOf]; omega
      have HE : Hid (acc = bytesL (numsL g)) := Lib.hid (by rw [← HI.out, drop_end (by omega)]; simp [bytesL])
      have hne2 : acc ≠ [] := by rw [HE.out]; exact bytes_cons _ (nums_cons g)
      obtain ⟨ob, od, rfl, hcv⟩ := own_string hO hne2
      obtain ⟨f1, f2, f3⟩ := hW.facts
      go_wp2_with fail
      refine (sum_any _ _ (by rw [strOfNums_size]; omega)).mono ?_
      rintro e wq ⟨rfl, rfl⟩
      have HE2 : Hid (strOfNums (acc ++ sumBytes (crc (strOfNums acc))) = coded g) := Lib.hid (by rw [HE.out]; rfl)
      have hq : crc (strOfNums acc) < 4294967296 := by unfold crc; omega
      generalize crc (strOfNums acc) = q at *
      have ecs : (#[.int .u8 ((q : Int) % 256), .int .u8 ((q : Int) / 256 % 256), .int .u8 ((q : Int) / 65536 % 256), .int .u8 ((q : Int) / 16777216)] : Array Value).toList = (sumBytes q).flatMap byteEnc := by
        have e4 : (q : Int) / 16777216 = ((q / 16777216 % 256 : Nat) : Int) := by omega
        rw [e4]
        simp [sumBytes, byteEnc]
      have hlen4 : (acc ++ sumBytes q).length = acc.length + 4 := by simp [sumBytes]
      have hne3 : acc ++ sumBytes q ≠ [] := by simp [sumBytes]
      have HLEN := Lib.hid hlen4
      have ECS := Lib.hid ecs
      clear hlen4 ecs
      go_wp2_with (at_builtin; refine wpList_append_els (enc := byteEnc) rfl (.tmp 92) (.tmp 104) 105 rfl w1.heap.size 5 i0 _ 1 1 Try.underlying105 hi hz0 hz1 hz2 rfl (by decide) _ acc (sumBytes q) 4 rfl rfl hO _ ECS.out _ rfl rfl rfl byte_one4 (by omega) (by decide) (by omega) ?_; intro v6 w6 hown6 hb8 _; obtain ⟨ob2, od2, rfl, hcv2⟩ := own_string hown6 hne3; rw [HLEN.out] at hcv2 ⊢)
      go_ret2
      exact ⟨by rw [HE2.out]; rfl, ext_trans hb2 (hb.trans hb8)⟩

set_option maxHeartbeats 1000000 in
theorem encode_any (A A' : Option Addr) (c c' : Nat) (g : GraphD) (w : World) (hG : GraphAt w A c A' c' g) :
    Calls Try.prog 33 #[gV A c A' c' g] w fun e w' => e = .returned (.tuple #[.string (if graphErr g = 0 then coded g else ByteArray.empty), .int .i64 (graphErr g)]) ∧ Below w.heap.size w w' := by
  by_cases h0 : graphErr g = 0
  · rw [if_pos h0, h0]
    exact encode_main A A' c c' g w hG (valid_of h0)
  · rw [if_neg h0]
    have hn : (graphErr g != 0) = true := by simp [h0]
    clear h0
    go_enter Try.func33, Try.ntmps33
    go_wp2_with fail
    refine (check_any _ _ _ _ g _ (hG.ext (by go_grown))).mono ?_
    rintro e w1 ⟨rfl, hb1⟩
    have hb2 : Below w.heap.size w w1 := ext_trans (by go_grown) hb1
    go_wp2_with fail
    go_ret2
    exact ⟨rfl, hb2⟩
end Go.Proofs.Ytcgnalpcbcpmkaa
