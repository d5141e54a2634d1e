/- The walk of the document's numbers: it tells numsL. -/
import Derived.Test.YtcgnalpcbcpmkaaSmall
import Derived.Test.YtcgnalpcbcpmkaaOwn2
import Derived.Test.YtcgnalpcbcpmkaaPackSpec
namespace Go.Proofs.Ytcgnalpcbcpmkaa
open Go.RowKit

theorem info_parts' {i : Option TypeInfo} {v : Value} {a b : Nat} (h : i.map (fun i => (i.zero, i.size, i.bytes)) = some (some v, a, b)) : ∃ i0, i = some i0 ∧ i0.zero = some v ∧ i0.size = a ∧ i0.bytes = b := by
  cases i with
  | none => simp at h
  | some i0 => simp at h; exact ⟨i0, rfl, h⟩
theorem info_int : (Try.prog.info? 3).map (fun i => (i.zero, i.size, i.bytes)) = some (some (.int .i64 0), 1, 8) := by kernel_rfl
def intEnc (n : Int) : List Value := [.int .i64 n]
theorem int_one1 {a : Int} : ∀ u ∈ (#[.int .i64 a] : Array Value).toList, u.oneCell' = true := by simp [Value.oneCell']
theorem int_one2 {a b : Int} : ∀ u ∈ (#[.int .i64 a, .int .i64 b] : Array Value).toList, u.oneCell' = true := by simp [Value.oneCell']
theorem int_one3 {a b c : Int} : ∀ u ∈ (#[.int .i64 a, .int .i64 b, .int .i64 c] : Array Value).toList, u.oneCell' = true := by simp [Value.oneCell']
theorem int_one4 {a b c d : Int} : ∀ u ∈ (#[.int .i64 a, .int .i64 b, .int .i64 c, .int .i64 d] : Array Value).toList, u.oneCell' = true := by simp [Value.oneCell']

theorem own_ints {w : World} {base : Nat} {v : Value} {l : List Int} (h : Own intEnc 1 w base 3 v l) (hi : ∀ x, x ∈ l → I64 x) : ∃ A c, v = .slice A l.length c ∧ SlAt RInt 1 w A l :=
  h.slAt (fun _ => rfl) fun x hx b o hc => ⟨by simpa using hc 0 _ rfl, hi x hx⟩
theorem num_i64 {n : Int} (h : Num n) : I64 n := by unfold Num at h; unfold I64; omega
set_option maxRecDepth 100000 in
set_option maxHeartbeats 4000000 in
theorem numbers_any (A A' : Option Addr) (c c' : Nat) (g : GraphD) (w : World) (hG : GraphAt w A c A' c' g) (hV : Valid g) :
    Calls Try.prog 90 #[gV A c A' c' g] w fun e w' => ∃ B d, e = .returned (.slice B (numsL g).length d) ∧ SlAt RInt 1 w' B (numsL g) ∧ Below w.heap.size w w' := by
  have hnl := hV.nl
  have hne := hV.ne
  have HN := Lib.hid (nums_num hV)
  obtain ⟨i0, hi, hz0, hz1, hz2⟩ := info_parts' info_int
  go_enter Try.func90, Try.ntmps90
  go_wp2_with fail
  go_loopw [3, 4] (fun o kk wr => ∃ (k : Nat) (acc : List Int), k ≤ g.lives.length ∧ kk = .int .i64 k ∧ Hid (acc ++ ((g.lives.drop k).flatMap lifeNums ++ g.edges.flatMap edgeNums) = numsL g) ∧ Own intEnc 1 wr (w.heap.size + 1) 3 o acc ∧ Below (w.heap.size + 1) (w.alloc (.cells (gC A c A' c' g) 28)) wr)
      (fun _ kk _ => g.lives.length - (intOf kk).toNat)
  case atStart =>
    refine ⟨0, [g.h, (g.lives.length : Int), (g.edges.length : Int)], Nat.zero_le _, rfl, Lib.hid rfl, ?_, by go_grown⟩
    exact Own.lit (by simp) (by omega) rfl rfl rfl (by simp [maxLen])
  case round =>
    obtain ⟨k, acc, hk, rfl, HI, hown, hb⟩ := hrel
    have hbw : Below w.heap.size w wr := (Below.refl _ _).alloc (Nat.le_refl _) _ |>.trans (hb.mono (by omega))
    have B0 := (Blk.new w 28 (gC A c A' c' g)).below hb (by omega)
    obtain ⟨b1, b2, b3⟩ := B0.facts
    have hzw : w.heap.size + 1 ≤ wr.heap.size := by have := hb.size; simpa using this
    have hacc : acc.length ≤ 900 := by
      have h1 := HN.out.2
      rw [← HI.out, List.length_append] at h1
      omega
    by_cases hlt : k < g.lives.length
    case pos =>
      obtain ⟨x, hx⟩ := get_lt hlt
      obtain ⟨be, oe, hE⟩ := hG.lives
      obtain ⟨rfl, hbe, ⟨⟨x0, x1⟩, _⟩⟩ := hE k x hx
      have x0' := x0.now hbw
      have x1' := x1.now hbw
      have HI2 : Hid (acc ++ (lifeNums x ++ ((g.lives.drop (k + 1)).flatMap lifeNums ++ g.edges.flatMap edgeNums)) = numsL g) := Lib.hid (by rw [← HI.out, drop_cons hx, List.flatMap_cons, List.append_assoc])
      clear hE hx x0 x1 HI
      have hltI : (k : Int) < (g.lives.length : Int) := by omega
      have hbe2 : be < wr.heap.size := Nat.lt_of_lt_of_le hbe hbw.size
      have S0 : wr.cell? ⟨w.heap.size, 0, none⟩ = some (.int .i64 g.h) ∧ wr.cell? ⟨w.heap.size, 1, none⟩ = some (.slice (some ⟨be, oe, none⟩) g.lives.length c) ∧ wr.cell? ⟨w.heap.size, 2, none⟩ = some (.slice A' g.edges.length c') ∧ wr.cell? ⟨be, oe + k * 2, none⟩ = some (.int .i64 x.f) ∧ wr.cell? ⟨be, oe + k * 2 + 1, none⟩ = some (.int .i64 x.t) := ⟨b1 0, b1 1, b1 2, x0', x1'⟩
      clear x0' x1' b1 b2 b3
      have hbeB : be < w.heap.size + 1 := by omega
      have hwB : w.heap.size < w.heap.size + 1 := by omega
      go_wp2_with fail
      go_region_held_law (fun w' => w'.cell? ⟨w.heap.size, 0, none⟩ = some (.int .i64 g.h) ∧ w'.cell? ⟨w.heap.size, 1, none⟩ = some (.slice (some ⟨be, oe, none⟩) g.lives.length c) ∧ w'.cell? ⟨w.heap.size, 2, none⟩ = some (.slice A' g.edges.length c') ∧ w'.cell? ⟨be, oe + k * 2, none⟩ = some (.int .i64 x.f) ∧ w'.cell? ⟨be, oe + k * 2 + 1, none⟩ = some (.int .i64 x.t))
        (first | exact S0 | (exact keepB5 (B := w.heap.size + 1) (below_drew ((Below.refl _ wr).alloc hzw _)) hwB hwB hwB hbeB hbeB S0) | (exact keepB5 (B := w.heap.size + 1) ((below_drew ((Below.refl _ wr).alloc hzw _)).trans hb8) hwB hwB hwB hbeB hbeB S0))
        (first | (refine step_append_els (enc := intEnc) rfl (.tmp 24) (.tmp 37) 53 rfl (w.heap.size + 1) 3 i0 _ 1 8 Try.underlying53 hi hz0 hz1 hz2 rfl (by decide) _ acc [x.f, x.t] 2 rfl (by decide) rfl (hown.alloc _).drew #[.int .i64 x.f, .int .i64 x.t] rfl _ (Blk.new wr 3 _).drew rfl rfl int_one2 (by omega) (by decide) (by simp; omega) ?_; intro v' w6 hown6 hb8 _) | (trace_state; fail))
      go_wp2_with fail
      go_roundw
      case rel =>
        refine ⟨k + 1, acc ++ [x.f, x.t], by omega, by go_num, Lib.hid ?_, hown6, (hb.trans (below_drew ((Below.refl _ wr).alloc hzw _))).trans hb8⟩
        rw [← HI2.out, List.append_assoc]
        rfl
      case measure => simp [intOf]; omega
    have HI2 : Hid (acc ++ g.edges.flatMap edgeNums = numsL g) := Lib.hid (by rw [← HI.out, drop_end (by omega)]; rfl)
    clear HI
    go_wp2_with fail
    go_loopw [3, 5] (fun o jj wr2 => ∃ (j : Nat) (acc : List Int), j ≤ g.edges.length ∧ jj = .int .i64 j ∧ Hid (acc ++ (g.edges.drop j).flatMap edgeNums = numsL g) ∧ Own intEnc 1 wr2 (w.heap.size + 1) 3 o acc ∧ Below (w.heap.size + 1) (w.alloc (.cells (gC A c A' c' g) 28)) wr2)
      (fun _ jj _ => g.edges.length - (intOf jj).toNat)
    case atStart => exact ⟨0, acc, Nat.zero_le _, rfl, HI2, hown, hb⟩
    case round =>
      clear hown hb hacc HI2 hbw B0 b1 b2 b3 hzw
      obtain ⟨j, acc, hj, rfl, HI, hown, hb⟩ := hrel
      have hbw : Below w.heap.size w wr := (Below.refl _ _).alloc (Nat.le_refl _) _ |>.trans (hb.mono (by omega))
      have B0 := (Blk.new w 28 (gC A c A' c' g)).below hb (by omega)
      obtain ⟨b1, b2, b3⟩ := B0.facts
      have hzw : w.heap.size + 1 ≤ wr.heap.size := by have := hb.size; simpa using this
      have hacc : acc.length ≤ 900 := by
        have h1 := HN.out.2
        rw [← HI.out, List.length_append] at h1
        omega
      by_cases hltj : j < g.edges.length
      case neg =>
        have HE : Hid (acc = numsL g) := Lib.hid (by have := HI.out; rw [drop_end (by omega)] at this; simpa using this)
        go_wp2_with fail
        go_ret
        obtain ⟨Ao, co, rfl, hS⟩ := own_ints hown (by rw [HE.out]; exact fun x hx => num_i64 (HN.out.1 x hx))
        rw [HE.out] at hS ⊢
        exact ⟨Ao, co, rfl, hS, hbw⟩
      obtain ⟨x, hx⟩ := get_lt hltj
      obtain ⟨be, oe, hE⟩ := hG.edges
      obtain ⟨rfl, hbe, ⟨⟨x0, x1, L, cl, x2, hl1, hl2, hL⟩, _⟩⟩ := hE j x hx
      have k0 := x0.now hbw
      have k1 := x1.now hbw
      have k2 := x2.now hbw
      have hll : x.legs.length ≤ maxLen := Nat.le_trans hl1 hl2
      have hxe : EdgeOk g x := hV.edges x (List.mem_of_getElem? hx)
      have h6 := hxe.six
      have HI2 : Hid (acc ++ [x.a, x.b, (x.legs.length : Int)] ++ (x.legs.flatMap legNums ++ (g.edges.drop (j + 1)).flatMap edgeNums) = numsL g) := Lib.hid (by
        rw [← HI.out, drop_cons hx, List.flatMap_cons]
        simp [edgeNums])
      clear hE hx HI x0 x1 x2
      obtain ⟨wo, rfl⟩ : ∃ wo : World, wo = wr := ⟨_, rfl⟩
      go_wp2_with (at_builtin; refine wpList_append_els (enc := intEnc) rfl (.tmp 51) (.tmp 59) 53 rfl (w.heap.size + 1) 3 i0 _ 1 8 Try.underlying53 hi hz0 hz1 hz2 rfl (by decide) _ acc [x.a, x.b, (x.legs.length : Int)] 3 rfl rfl (hown.alloc (Obj.cells #[.int .i64 x.a, .int .i64 x.b, .slice L x.legs.length cl] 99)) _ rfl _ (by simp) rfl rfl int_one3 (by omega) (by decide) (by simp; omega) ?_; intro v' w6 hown6 hb8 hkp)
      have BE := hkp _ _ _ (Blk.new wo 99 #[.int .i64 x.a, .int .i64 x.b, .slice L x.legs.length cl]) (by decide)
      have hb9 := (hb.trans ((Below.refl _ wo).alloc hzw _)).trans hb8
      clear hown hb hb8 hkp k0 k1 k2 b1 b2 b3 B0 hacc
      have hwz : w.heap.size + 1 ≤ wo.heap.size := hzw
      go_wp2_with fail
      go_loopw [3, 7] (fun o ii wr => ∃ (i : Nat) (acc : List Int), i ≤ x.legs.length ∧ ii = .int .i64 i ∧ Hid (acc ++ ((x.legs.drop i).flatMap legNums ++ (g.edges.drop (j + 1)).flatMap edgeNums) = numsL g) ∧ Own intEnc 1 wr (w.heap.size + 1) 3 o acc ∧ Below (w.heap.size + 1) (w.alloc (.cells (gC A c (some ⟨be, oe, none⟩) c' g) 28)) wr ∧ Blk wr wo.heap.size 99 #[.int .i64 x.a, .int .i64 x.b, .slice L x.legs.length cl])
        (fun _ ii _ => x.legs.length - (intOf ii).toNat)
      case atStart => exact ⟨0, _, Nat.zero_le _, rfl, HI2, hown6, hb9, BE⟩
      case round =>
        clear HI2 hown6 hb9 BE hbw hzw
        obtain ⟨i, acc, hi', rfl, HI, hown, hb, BE⟩ := hrel
        have hbw : Below w.heap.size w wr := (Below.refl _ _).alloc (Nat.le_refl _) _ |>.trans (hb.mono (by omega))
        obtain ⟨b1, b2, b3⟩ := BE.facts
        have hzw : w.heap.size + 1 ≤ wr.heap.size := by have := hb.size; simpa using this
        have hacc : acc.length ≤ 900 := by
          have h1 := HN.out.2
          rw [← HI.out, List.length_append] at h1
          omega
        by_cases hlti : i < x.legs.length
        case neg =>
          have HE : Hid (acc ++ (g.edges.drop (j + 1)).flatMap edgeNums = numsL g) := Lib.hid (by have := HI.out; rw [drop_end (by omega)] at this; simpa using this)
          go_wp2_with fail
          go_roundw
          case rel => exact ⟨j + 1, acc, by omega, by go_num, HE, hown, hb⟩
          case measure => simp [intOf]; omega
        obtain ⟨lg, hlg⟩ := get_lt hlti
        obtain ⟨bl, ol, hLL⟩ := hL
        obtain ⟨rfl, hbl, ⟨⟨l0, l1, l2, l3⟩, _⟩⟩ := hLL i lg hlg
        have S0 : wr.cell? ⟨wo.heap.size, 2, none⟩ = some (.slice (some ⟨bl, ol, none⟩) x.legs.length cl) ∧ wr.cell? ⟨bl, ol + i * 4, none⟩ = some (.int .i64 lg.f) ∧ wr.cell? ⟨bl, ol + i * 4 + 1, none⟩ = some (.int .i64 lg.t) ∧ wr.cell? ⟨bl, ol + i * 4 + 2, none⟩ = some (.int .i64 lg.time) ∧ wr.cell? ⟨bl, ol + i * 4 + 3, none⟩ = some (.int .i64 lg.cost) := ⟨b1 2, l0.now hbw, l1.now hbw, l2.now hbw, l3.now hbw⟩
        have HI2 : Hid (acc ++ [lg.f, lg.t, lg.time, lg.cost] ++ ((x.legs.drop (i + 1)).flatMap legNums ++ (g.edges.drop (j + 1)).flatMap edgeNums) = numsL g) := Lib.hid (by
          rw [← HI.out, drop_cons hlg, List.flatMap_cons]
          simp [legNums])
        clear hLL hlg HI l0 l1 l2 l3 b1 b2
        have hblB : bl < w.heap.size + 1 := by omega
        have hltI : (i : Int) < (x.legs.length : Int) := by omega
        go_wp2_with fail
        go_region_held_law (fun w' => w'.cell? ⟨wo.heap.size, 2, none⟩ = some (.slice (some ⟨bl, ol, none⟩) x.legs.length cl) ∧ w'.cell? ⟨bl, ol + i * 4, none⟩ = some (.int .i64 lg.f) ∧ w'.cell? ⟨bl, ol + i * 4 + 1, none⟩ = some (.int .i64 lg.t) ∧ w'.cell? ⟨bl, ol + i * 4 + 2, none⟩ = some (.int .i64 lg.time) ∧ w'.cell? ⟨bl, ol + i * 4 + 3, none⟩ = some (.int .i64 lg.cost))
          (first | exact S0 | (exact keep5 (below_drew ((Below.refl _ wr).alloc (Nat.le_refl _) _)) S0) | (exact ⟨(hkp _ _ _ (BE.alloc _).drew (by decide)).cell 2, keepB4 (B := w.heap.size + 1) ((below_drew ((Below.refl _ wr).alloc hzw _)).trans hb8) hblB hblB hblB hblB S0.2⟩))
          (first | (refine step_append_els (enc := intEnc) rfl (.tmp 68) (.tmp 93) 53 rfl (w.heap.size + 1) 3 i0 _ 1 8 Try.underlying53 hi hz0 hz1 hz2 rfl (by decide) _ acc [lg.f, lg.t, lg.time, lg.cost] 4 rfl (by decide) rfl (hown.alloc _).drew #[.int .i64 lg.f, .int .i64 lg.t, .int .i64 lg.time, .int .i64 lg.cost] rfl _ (Blk.new wr 3 _).drew rfl rfl int_one4 (by omega) (by decide) (by simp; omega) ?_; intro v' w6 hown6 hb8 hkp))
        go_wp2_with fail
        go_roundw
        case rel => exact ⟨i + 1, acc ++ [lg.f, lg.t, lg.time, lg.cost], by omega, by go_num, HI2, hown6, (hb.trans (below_drew ((Below.refl _ wr).alloc hzw _))).trans hb8, hkp _ _ _ (BE.alloc _).drew (by decide)⟩
        case measure => simp [intOf]; omega
end Go.Proofs.Ytcgnalpcbcpmkaa
