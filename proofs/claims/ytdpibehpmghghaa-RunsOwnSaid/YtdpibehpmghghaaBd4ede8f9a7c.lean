/- One text: EachG. -/
import Derived.Test.YtdpibehpmghghaaBda9cbf8a0d5
/- The walk of imap.each, of a closure that writes (printed by geneachg.py). -/
namespace Go.Proofs.Ytdpibehpmghghaa
open Go.RowKit Go.Shelf

set_option maxRecDepth 100000 in
set_option maxHeartbeats 16000000 in
theorem each_gen (fn : Nat) (lb : Array Value) (f : Int → Option Int) (eg : ∀ args w, (callFunc fn args).run Try.prog w = .ok (.enter fn args) w) (A : Option Addr) (c : Nat) (D : List Int) (w : World) (hA : IntsAt w A c D) (hDl : D.length ≤ 10000)
    (hD : D.Pairwise (· < ·)) (hT : TurnsAt D none f) (hv : ∀ t v, f t = some v → I64 v) (J : Nat → World → Prop) (hJ0 : J 0 w) (hJA : ∀ i W, J i W → IntsAt W A c D) (hJB : ∀ i W W', J i W → Below w.heap.size W W' → J i W')
    (hp : ∀ (i : Nat) (W : World) (x : Int), J i W → D[i]? = some x → i + 1 < D.length → Calls Try.prog fn (#[.int .i64 x] ++ lb) W fun e w' => e = .returned (atV (f x)) ∧ J (i + 1) w' ∧ W.heap.size ≤ w'.heap.size ∧ ∀ b t cs, t ≠ 4 → Blk W b t cs → Blk w' b t cs) :
    Calls Try.prog 40 #[.slice A D.length c, .func (.func fn) #[] lb] w (fun e w' => ∃ er out A' c' i, Hid (EachSay f er out) ∧ e = .returned (.tuple #[.slice A' out.length c', .int .i64 er]) ∧ PiecesNew w.heap.size w' A' c' out ∧ Hid (J i w') ∧ D.length ≤ i + 1 ∧ (i < D.length ∨ i = 0)) := by
  have HI64 := Lib.hid hA.i64
  have HP := Lib.hid hp; have HTD := Lib.hid hT; have HD := Lib.hid hD; have HV := Lib.hid hv
  have HJA := Lib.hid hJA; have HJB := Lib.hid hJB; have HJ0 := Lib.hid hJ0
  have hD9 := hA.len
  clear hA hp hT hD hv hJ0 hJA hJB
  go_enter Try.func40, Try.ntmps40
  go_wp2_with fail
  go_loopw [7] (fun v wr => ∃ (i : Nat) (out : List PieceD) (v' : Value), v = .int .i64 i ∧ Hid (i < D.length ∨ (D = [] ∧ i = 0 ∧ out = [])) ∧ Hid (ToldK f D i out) ∧ Blk wr w.heap.size 89 #[v'] ∧ Own pieceC 3 wr (w.heap.size + 1) 25 v' out ∧ Hid (J i wr) ∧ w.heap.size + 1 ≤ wr.heap.size) (fun v _ => D.length - (intOf v).toNat)
  case atStart => exact ⟨0, [], _, rfl, Lib.hid (by cases D with
    | nil => exact .inr ⟨rfl, rfl, rfl⟩
    | cons y r => exact .inl (by simp)), Lib.hid ToldK.start, Blk.new w _ _, Own.nil, Lib.hid (HJB.out _ _ _ HJ0.out (by go_grown)), by simp⟩
  case round =>
    obtain ⟨i, out, v', rfl, H0, HB, BB, hO, HJ0, hwr⟩ := hrel
    have hil : i ≤ D.length := by rcases H0.out with h | ⟨h, h2, _⟩ <;> omega
    have hol := HB.out.2.1
    by_cases hlt : i + 1 < D.length
    case neg =>
      have HF : Hid (MapL out ∧ ∀ t, atM out t = f t) := Lib.hid (HB.out.fin HD.out HTD.out (by omega) (H0.out.imp id fun h => ⟨h.1, h.2.2⟩))
      obtain ⟨Ao, co, rfl, hIo⟩ := own_pieces hO HB.out.2.2
      have hDn := bdone_any w.heap.size Ao out.length co wr BB
      by_cases hl : 200 < out.length
      · rw [if_pos hl] at hDn
        have HS : Hid (EachSay f 2 []) := Lib.hid ⟨out, HF.out.1, HF.out.2, by rw [if_pos hl], by rw [if_pos hl]⟩
        clear hl
        go_wp2_with (go_at_call 63; refine hDn.mono ?_; rintro e w' ⟨rfl, rfl⟩)
        refine bodyPost_ret (v := .tuple #[.slice none 0 0, .int .i64 2]) (by simp [results, Try.results40]) rfl ?_
        exact ⟨2, [], none, 0, i, HS, rfl, .nil, HJ0, by omega, H0.out.imp id fun h => h.2.1⟩
      · rw [if_neg hl] at hDn
        have HS : Hid (EachSay f 0 out) := Lib.hid ⟨out, HF.out.1, HF.out.2, by rw [if_neg hl], by rw [if_neg hl]⟩
        clear hl
        go_wp2_with (go_at_call 63; refine hDn.mono ?_; rintro e w' ⟨rfl, rfl⟩)
        refine bodyPost_ret (v := .tuple #[.slice Ao out.length co, .int .i64 0]) (by simp [results, Try.results40]) rfl ?_
        exact ⟨0, out, Ao, co, i, HS, rfl, hIo.since (Nat.le_succ _), HJ0, by omega, H0.out.imp id fun h => h.2.1⟩
    case pos =>
      obtain ⟨a, ha⟩ := get_lt (show i < D.length by omega)
      obtain ⟨d, hd⟩ := get_lt hlt
      obtain ⟨b, off, rfl, hb0, x0⟩ := (HJA.out _ _ HJ0.out).get ha
      obtain ⟨b', off', e', _, x1⟩ := (HJA.out _ _ HJ0.out).get hd
      obtain ⟨rfl, rfl⟩ : b = b' ∧ off = off' := by simpa using e'
      have HIA := Lib.hid (HI64.out a (List.mem_of_getElem? ha)); have HID := Lib.hid (HI64.out d (List.mem_of_getElem? hd))
      have HAD : Hid (a < d) := Lib.hid (rises_lt HD.out ha hd)
      have HA := Lib.hid ha; have HDD := Lib.hid hd
      have hc := HP.out i wr a HJ0.out ha hlt
      have hil' : i < D.length := by omega
      have hltz : (i : Int) + 1 < (D.length : Int) := by omega
      have hiw : IntKind.i64.wrap ((i : Int) + 1) = (i : Int) + 1 := IntWalk.i64_in _ (by omega)
      have hol9 : out.length ≤ 100000 := by omega
      have hi0 : (0 : Int) ≤ (i : Int) + 1 := by omega
      clear ha hd e' x1
      cases hq : f a with
      | none =>
        rw [hq] at hc
        have HQ := Lib.hid hq
        unfold atV at hc
        simp only [Option.getD_none, Option.isSome_none] at hc
        clear hq
        go_wp2_with fail
        refine hc.mono ?_
        rintro e w' ⟨rfl, hJ2, hz2, hk2⟩
        go_wp2_with fail
        go_roundw
        case rel => exact ⟨i + 1, out, v', by go_num, Lib.hid (.inl hlt), Lib.hid (HB.out.skip HD.out HTD.out HA.out HDD.out HQ.out), hk2 _ _ _ (by decide) BB, hO.keep (fun b cs h => hk2 b _ cs (by decide) h), Lib.hid hJ2, Nat.le_trans hwr hz2⟩
        case measure => simp [intOf]; omega
      | some y =>
        rw [hq] at hc
        have HQ := Lib.hid hq
        have HIY := Lib.hid (HV.out a y hq)
        unfold atV at hc
        simp only [Option.getD_some, Option.isSome_some] at hc
        clear hq
        go_wp2_with fail
        refine hc.mono ?_
        rintro e w2 ⟨rfl, hJ2, hz2, hk2⟩
        have hO := hO.keep (fun b cs h => hk2 b _ cs (by decide) h)
        have BB := hk2 _ _ _ (by decide) BB
        have HJ2 := Lib.hid hJ2
        have hwr := Nat.le_trans hwr hz2
        clear hz2 hk2 hJ2 x0
        go_wp2_with fail
        rcases List.eq_nil_or_concat out with rfl | ⟨o, z, rfl⟩
        · have HB2 : Hid (ToldK f D (i + 1) ([] ++ [⟨a, d, y⟩])) := Lib.hid (HB.out.next HD.out HTD.out HA.out HDD.out HQ.out (fun y hy => by simp at hy) HIA.out HID.out HIY.out)
          obtain ⟨S, hSS⟩ : ∃ S : World → Prop, Hid (S = fun w' => w'.cell? ⟨b, off + i, none⟩ = some (.int .i64 a) ∧ w'.cell? ⟨b, off + (i + 1), none⟩ = some (.int .i64 d)) := ⟨_, Lib.hid rfl⟩
          have BB := BB.drew
          have hO := hO.drew
          have HJ2 : Hid (J (i + 1) w2.drew) := Lib.hid (HJB.out _ _ _ HJ2.out (below_drew (Below.refl _ w2)))
          have hwr : w.heap.size + 1 ≤ w2.drew.heap.size := hwr
          have hS0 : S w2.drew := by
            rw [hSS.out]
            obtain ⟨b2, off2, e2, -, y0⟩ := (HJA.out _ _ HJ2.out).get HA.out
            obtain ⟨b3, off3, e3, -, y1⟩ := (HJA.out _ _ HJ2.out).get HDD.out
            obtain ⟨rfl, rfl⟩ : b = b2 ∧ off = off2 := by simpa using e2
            obtain ⟨rfl, rfl⟩ : b = b3 ∧ off = off3 := by simpa using e3
            exact ⟨y0, y1⟩
          refine WpN.begin (S := S) 12 (by kernel_rfl) ?_
          refine WpN.takeD (i := 0) (v := ?_) rfl rfl (by kernel_rfl) (fun _ _ _ h => h) (Or.inl ⟨by rfl, ?_⟩) (by assumption) ?_
          rotate_left
          · intro w hSw; rw [hSS.out] at hSw; obtain ⟨sw0, sw1⟩ := hSw; go_simp; try with_reducible rfl
          try simp only [Act.put, List.setIfInBounds_toArray, List.set_cons_zero, List.set_cons_succ]
          refine WpN.takeD (i := 1) (v := ?_) rfl rfl (by kernel_rfl) (fun _ _ _ h => h) (Or.inl ⟨by rfl, ?_⟩) (by assumption) ?_
          rotate_left
          · intro w hSw; rw [hSS.out] at hSw; obtain ⟨sw0, sw1⟩ := hSw; go_simp; try with_reducible rfl
          try simp only [Act.put, List.setIfInBounds_toArray, List.set_cons_zero, List.set_cons_succ]
          refine WpN.takeD (i := 2) (v := ?_) rfl rfl (by kernel_rfl) (fun _ _ _ h => h) (Or.inl ⟨by rfl, ?_⟩) (by assumption) ?_
          rotate_left
          · intro w hSw; rw [hSS.out] at hSw; obtain ⟨sw0, sw1⟩ := hSw; go_simp; try with_reducible rfl
          try simp only [Act.put, List.setIfInBounds_toArray, List.set_cons_zero, List.set_cons_succ]
          refine WpN.takeD (i := 3) (v := ?_) rfl rfl (by kernel_rfl) (fun _ _ _ h => h) (Or.inl ⟨by rfl, ?_⟩) (by assumption) ?_
          rotate_left
          · intro w hSw; rw [hSS.out] at hSw; obtain ⟨sw0, sw1⟩ := hSw; go_simp; try with_reducible rfl
          try simp only [Act.put, List.setIfInBounds_toArray, List.set_cons_zero, List.set_cons_succ]
          refine WpN.takeD (i := 4) (v := ?_) rfl rfl (by kernel_rfl) (fun _ _ _ h => h) (Or.inl ⟨by rfl, ?_⟩) (by assumption) ?_
          rotate_left
          · intro w hSw; rw [hSS.out] at hSw; obtain ⟨sw0, sw1⟩ := hSw; go_simp; try with_reducible rfl
          try simp only [Act.put, List.setIfInBounds_toArray, List.set_cons_zero, List.set_cons_succ]
          refine WpN.takeD (i := 5) (v := ?_) rfl rfl (by kernel_rfl) (fun _ _ _ h => h) (Or.inl ⟨by rfl, ?_⟩) (by assumption) ?_
          rotate_left
          · intro w hSw; rw [hSS.out] at hSw; obtain ⟨sw0, sw1⟩ := hSw; go_simp; try with_reducible rfl
          try simp only [Act.put, List.setIfInBounds_toArray, List.set_cons_zero, List.set_cons_succ]
          refine WpN.takeD (i := 6) (v := ?_) rfl rfl (by kernel_rfl) (fun _ _ _ h => h) (Or.inl ⟨by rfl, ?_⟩) (by assumption) ?_
          rotate_left
          · intro w hSw; rw [hSS.out] at hSw; obtain ⟨sw0, sw1⟩ := hSw; go_simp; try with_reducible rfl
          try simp only [Act.put, List.setIfInBounds_toArray, List.set_cons_zero, List.set_cons_succ]
          refine WpN.takeD (i := 7) (v := ?_) rfl rfl (by kernel_rfl) (fun _ _ _ h => h) (Or.inl ⟨by rfl, ?_⟩) (by assumption) ?_
          rotate_left
          · intro w hSw; rw [hSS.out] at hSw; obtain ⟨sw0, sw1⟩ := hSw; go_simp; try with_reducible rfl
          try simp only [Act.put, List.setIfInBounds_toArray, List.set_cons_zero, List.set_cons_succ]
          refine WpN.takeD (i := 8) (v := ?_) rfl rfl (by kernel_rfl) (fun _ _ _ h => h) (Or.inl ⟨by rfl, ?_⟩) (by assumption) ?_
          rotate_left
          · intro w hSw; rw [hSS.out] at hSw; obtain ⟨sw0, sw1⟩ := hSw; go_simp; try with_reducible rfl
          try simp only [Act.put, List.setIfInBounds_toArray, List.set_cons_zero, List.set_cons_succ]
          refine WpN.takeD (i := 9) (v := ?_) rfl rfl (by kernel_rfl) (fun _ _ _ h => h) (Or.inl ⟨by rfl, ?_⟩) (by assumption) ?_
          rotate_left
          · intro w hSw; rw [hSS.out] at hSw; obtain ⟨sw0, sw1⟩ := hSw; go_simp; try with_reducible rfl
          try simp only [Act.put, List.setIfInBounds_toArray, List.set_cons_zero, List.set_cons_succ]
          refine WpN.takeD (i := 10) (v := ?_) rfl rfl (by kernel_rfl) (fun _ _ _ h => h) (Or.inl ⟨by rfl, ?_⟩) (by assumption) ?_
          rotate_left
          · intro w hSw; rw [hSS.out] at hSw; obtain ⟨sw0, sw1⟩ := hSw; go_simp; try with_reducible rfl
          try simp only [Act.put, List.setIfInBounds_toArray, List.set_cons_zero, List.set_cons_succ]
          refine WpN.takeD (i := 11) (v := ?_) rfl rfl (by kernel_rfl) (fun _ _ _ h => h) (Or.inl ⟨by rfl, ?_⟩) (by assumption) ?_
          rotate_left
          · intro w hSw; rw [hSS.out] at hSw; obtain ⟨sw0, sw1⟩ := hSw; go_simp; try with_reducible rfl
          try simp only [Act.put, List.setIfInBounds_toArray, List.set_cons_zero, List.set_cons_succ]
          refine WpN.one (i := 12) rfl (by kernel_rfl) fun K hK => ?_
          go_wp2_with fail
          refine (add_first (w.heap.size) w.heap.size (w.heap.size + 1) v' ([] : List PieceD) ⟨a, d, y⟩ w2.drew BB hO (Nat.le_refl _) (by omega) (by omega) hol9 HAD.out (.inl rfl)).mono ?_
          rintro e w4 ⟨rfl, v4, BB4, hO4, hb4⟩
          refine hK.out _ _ ⟨fun h => by omega, ?_⟩
          refine WpN.done (by kernel_rfl) ?_ _
          clear hK K hSS hS0
          go_wp2_with fail
          go_roundw
          case rel => exact ⟨i + 1, [] ++ [⟨a, d, y⟩], v4, by go_num, Lib.hid (.inl hlt), HB2, BB4, hO4, Lib.hid (HJB.out _ _ _ HJ2.out (hb4.mono (by omega))), Nat.le_trans hwr hb4.size⟩
          case measure => simp [intOf]; omega
        · rw [List.concat_eq_append] at HB hO hol hol9
          by_cases hj : joins z ⟨a, d, y⟩
          · have HJ := Lib.hid hj
            have HB2 : Hid (ToldK f D (i + 1) (o ++ [⟨z.f, d, z.v⟩])) := Lib.hid (HB.out.grow HD.out HTD.out HA.out HDD.out HQ.out hj HID.out)
            clear hj
            obtain ⟨S, hSS⟩ : ∃ S : World → Prop, Hid (S = fun w' => w'.cell? ⟨b, off + i, none⟩ = some (.int .i64 a) ∧ w'.cell? ⟨b, off + (i + 1), none⟩ = some (.int .i64 d)) := ⟨_, Lib.hid rfl⟩
            have BB := BB.drew
            have hO := hO.drew
            have HJ2 : Hid (J (i + 1) w2.drew) := Lib.hid (HJB.out _ _ _ HJ2.out (below_drew (Below.refl _ w2)))
            have hwr : w.heap.size + 1 ≤ w2.drew.heap.size := hwr
            have hS0 : S w2.drew := by
              rw [hSS.out]
              obtain ⟨b2, off2, e2, -, y0⟩ := (HJA.out _ _ HJ2.out).get HA.out
              obtain ⟨b3, off3, e3, -, y1⟩ := (HJA.out _ _ HJ2.out).get HDD.out
              obtain ⟨rfl, rfl⟩ : b = b2 ∧ off = off2 := by simpa using e2
              obtain ⟨rfl, rfl⟩ : b = b3 ∧ off = off3 := by simpa using e3
              exact ⟨y0, y1⟩
            refine WpN.begin (S := S) 12 (by kernel_rfl) ?_
            refine WpN.takeD (i := 0) (v := ?_) rfl rfl (by kernel_rfl) (fun _ _ _ h => h) (Or.inl ⟨by rfl, ?_⟩) (by assumption) ?_
            rotate_left
            · intro w hSw; rw [hSS.out] at hSw; obtain ⟨sw0, sw1⟩ := hSw; go_simp; try with_reducible rfl
            try simp only [Act.put, List.setIfInBounds_toArray, List.set_cons_zero, List.set_cons_succ]
            refine WpN.takeD (i := 1) (v := ?_) rfl rfl (by kernel_rfl) (fun _ _ _ h => h) (Or.inl ⟨by rfl, ?_⟩) (by assumption) ?_
            rotate_left
            · intro w hSw; rw [hSS.out] at hSw; obtain ⟨sw0, sw1⟩ := hSw; go_simp; try with_reducible rfl
            try simp only [Act.put, List.setIfInBounds_toArray, List.set_cons_zero, List.set_cons_succ]
            refine WpN.takeD (i := 2) (v := ?_) rfl rfl (by kernel_rfl) (fun _ _ _ h => h) (Or.inl ⟨by rfl, ?_⟩) (by assumption) ?_
            rotate_left
            · intro w hSw; rw [hSS.out] at hSw; obtain ⟨sw0, sw1⟩ := hSw; go_simp; try with_reducible rfl
            try simp only [Act.put, List.setIfInBounds_toArray, List.set_cons_zero, List.set_cons_succ]
            refine WpN.takeD (i := 3) (v := ?_) rfl rfl (by kernel_rfl) (fun _ _ _ h => h) (Or.inl ⟨by rfl, ?_⟩) (by assumption) ?_
            rotate_left
            · intro w hSw; rw [hSS.out] at hSw; obtain ⟨sw0, sw1⟩ := hSw; go_simp; try with_reducible rfl
            try simp only [Act.put, List.setIfInBounds_toArray, List.set_cons_zero, List.set_cons_succ]
            refine WpN.takeD (i := 4) (v := ?_) rfl rfl (by kernel_rfl) (fun _ _ _ h => h) (Or.inl ⟨by rfl, ?_⟩) (by assumption) ?_
            rotate_left
            · intro w hSw; rw [hSS.out] at hSw; obtain ⟨sw0, sw1⟩ := hSw; go_simp; try with_reducible rfl
            try simp only [Act.put, List.setIfInBounds_toArray, List.set_cons_zero, List.set_cons_succ]
            refine WpN.takeD (i := 5) (v := ?_) rfl rfl (by kernel_rfl) (fun _ _ _ h => h) (Or.inl ⟨by rfl, ?_⟩) (by assumption) ?_
            rotate_left
            · intro w hSw; rw [hSS.out] at hSw; obtain ⟨sw0, sw1⟩ := hSw; go_simp; try with_reducible rfl
            try simp only [Act.put, List.setIfInBounds_toArray, List.set_cons_zero, List.set_cons_succ]
            refine WpN.takeD (i := 6) (v := ?_) rfl rfl (by kernel_rfl) (fun _ _ _ h => h) (Or.inl ⟨by rfl, ?_⟩) (by assumption) ?_
            rotate_left
            · intro w hSw; rw [hSS.out] at hSw; obtain ⟨sw0, sw1⟩ := hSw; go_simp; try with_reducible rfl
            try simp only [Act.put, List.setIfInBounds_toArray, List.set_cons_zero, List.set_cons_succ]
            refine WpN.takeD (i := 7) (v := ?_) rfl rfl (by kernel_rfl) (fun _ _ _ h => h) (Or.inl ⟨by rfl, ?_⟩) (by assumption) ?_
            rotate_left
            · intro w hSw; rw [hSS.out] at hSw; obtain ⟨sw0, sw1⟩ := hSw; go_simp; try with_reducible rfl
            try simp only [Act.put, List.setIfInBounds_toArray, List.set_cons_zero, List.set_cons_succ]
            refine WpN.takeD (i := 8) (v := ?_) rfl rfl (by kernel_rfl) (fun _ _ _ h => h) (Or.inl ⟨by rfl, ?_⟩) (by assumption) ?_
            rotate_left
            · intro w hSw; rw [hSS.out] at hSw; obtain ⟨sw0, sw1⟩ := hSw; go_simp; try with_reducible rfl
            try simp only [Act.put, List.setIfInBounds_toArray, List.set_cons_zero, List.set_cons_succ]
            refine WpN.takeD (i := 9) (v := ?_) rfl rfl (by kernel_rfl) (fun _ _ _ h => h) (Or.inl ⟨by rfl, ?_⟩) (by assumption) ?_
            rotate_left
            · intro w hSw; rw [hSS.out] at hSw; obtain ⟨sw0, sw1⟩ := hSw; go_simp; try with_reducible rfl
            try simp only [Act.put, List.setIfInBounds_toArray, List.set_cons_zero, List.set_cons_succ]
            refine WpN.takeD (i := 10) (v := ?_) rfl rfl (by kernel_rfl) (fun _ _ _ h => h) (Or.inl ⟨by rfl, ?_⟩) (by assumption) ?_
            rotate_left
            · intro w hSw; rw [hSS.out] at hSw; obtain ⟨sw0, sw1⟩ := hSw; go_simp; try with_reducible rfl
            try simp only [Act.put, List.setIfInBounds_toArray, List.set_cons_zero, List.set_cons_succ]
            refine WpN.takeD (i := 11) (v := ?_) rfl rfl (by kernel_rfl) (fun _ _ _ h => h) (Or.inl ⟨by rfl, ?_⟩) (by assumption) ?_
            rotate_left
            · intro w hSw; rw [hSS.out] at hSw; obtain ⟨sw0, sw1⟩ := hSw; go_simp; try with_reducible rfl
            try simp only [Act.put, List.setIfInBounds_toArray, List.set_cons_zero, List.set_cons_succ]
            refine WpN.one (i := 12) rfl (by kernel_rfl) fun K hK => ?_
            go_wp2_with fail
            refine (add_grow (w.heap.size) w.heap.size (w.heap.size + 1) v' o z ⟨a, d, y⟩ w2.drew BB hO (Nat.le_refl _) (by omega) (by omega) hol9 HAD.out HJ.out).mono ?_
            rintro e w4 ⟨rfl, v4, BB4, hO4, hb4⟩
            refine hK.out _ _ ⟨fun h => by omega, ?_⟩
            refine WpN.done (by kernel_rfl) ?_ _
            clear hK K hSS hS0
            go_wp2_with fail
            go_roundw
            case rel => exact ⟨i + 1, o ++ [⟨z.f, d, z.v⟩], v4, by go_num, Lib.hid (.inl hlt), HB2, BB4, hO4, Lib.hid (HJB.out _ _ _ HJ2.out (hb4.mono (by omega))), Nat.le_trans hwr hb4.size⟩
            case measure => simp [intOf]; omega
          · have HJ := Lib.hid hj
            have HB2 : Hid (ToldK f D (i + 1) (o ++ [z] ++ [⟨a, d, y⟩])) := Lib.hid (HB.out.next HD.out HTD.out HA.out HDD.out HQ.out (HB.out.last HA.out hj) HIA.out HID.out HIY.out)
            clear hj
            obtain ⟨S, hSS⟩ : ∃ S : World → Prop, Hid (S = fun w' => w'.cell? ⟨b, off + i, none⟩ = some (.int .i64 a) ∧ w'.cell? ⟨b, off + (i + 1), none⟩ = some (.int .i64 d)) := ⟨_, Lib.hid rfl⟩
            have BB := BB.drew
            have hO := hO.drew
            have HJ2 : Hid (J (i + 1) w2.drew) := Lib.hid (HJB.out _ _ _ HJ2.out (below_drew (Below.refl _ w2)))
            have hwr : w.heap.size + 1 ≤ w2.drew.heap.size := hwr
            have hS0 : S w2.drew := by
              rw [hSS.out]
              obtain ⟨b2, off2, e2, -, y0⟩ := (HJA.out _ _ HJ2.out).get HA.out
              obtain ⟨b3, off3, e3, -, y1⟩ := (HJA.out _ _ HJ2.out).get HDD.out
              obtain ⟨rfl, rfl⟩ : b = b2 ∧ off = off2 := by simpa using e2
              obtain ⟨rfl, rfl⟩ : b = b3 ∧ off = off3 := by simpa using e3
              exact ⟨y0, y1⟩
            refine WpN.begin (S := S) 12 (by kernel_rfl) ?_
            refine WpN.takeD (i := 0) (v := ?_) rfl rfl (by kernel_rfl) (fun _ _ _ h => h) (Or.inl ⟨by rfl, ?_⟩) (by assumption) ?_
            rotate_left
            · intro w hSw; rw [hSS.out] at hSw; obtain ⟨sw0, sw1⟩ := hSw; go_simp; try with_reducible rfl
            try simp only [Act.put, List.setIfInBounds_toArray, List.set_cons_zero, List.set_cons_succ]
            refine WpN.takeD (i := 1) (v := ?_) rfl rfl (by kernel_rfl) (fun _ _ _ h => h) (Or.inl ⟨by rfl, ?_⟩) (by assumption) ?_
            rotate_left
            · intro w hSw; rw [hSS.out] at hSw; obtain ⟨sw0, sw1⟩ := hSw; go_simp; try with_reducible rfl
            try simp only [Act.put, List.setIfInBounds_toArray, List.set_cons_zero, List.set_cons_succ]
            refine WpN.takeD (i := 2) (v := ?_) rfl rfl (by kernel_rfl) (fun _ _ _ h => h) (Or.inl ⟨by rfl, ?_⟩) (by assumption) ?_
            rotate_left
            · intro w hSw; rw [hSS.out] at hSw; obtain ⟨sw0, sw1⟩ := hSw; go_simp; try with_reducible rfl
            try simp only [Act.put, List.setIfInBounds_toArray, List.set_cons_zero, List.set_cons_succ]
            refine WpN.takeD (i := 3) (v := ?_) rfl rfl (by kernel_rfl) (fun _ _ _ h => h) (Or.inl ⟨by rfl, ?_⟩) (by assumption) ?_
            rotate_left
            · intro w hSw; rw [hSS.out] at hSw; obtain ⟨sw0, sw1⟩ := hSw; go_simp; try with_reducible rfl
            try simp only [Act.put, List.setIfInBounds_toArray, List.set_cons_zero, List.set_cons_succ]
            refine WpN.takeD (i := 4) (v := ?_) rfl rfl (by kernel_rfl) (fun _ _ _ h => h) (Or.inl ⟨by rfl, ?_⟩) (by assumption) ?_
            rotate_left
            · intro w hSw; rw [hSS.out] at hSw; obtain ⟨sw0, sw1⟩ := hSw; go_simp; try with_reducible rfl
            try simp only [Act.put, List.setIfInBounds_toArray, List.set_cons_zero, List.set_cons_succ]
            refine WpN.takeD (i := 5) (v := ?_) rfl rfl (by kernel_rfl) (fun _ _ _ h => h) (Or.inl ⟨by rfl, ?_⟩) (by assumption) ?_
            rotate_left
            · intro w hSw; rw [hSS.out] at hSw; obtain ⟨sw0, sw1⟩ := hSw; go_simp; try with_reducible rfl
            try simp only [Act.put, List.setIfInBounds_toArray, List.set_cons_zero, List.set_cons_succ]
            refine WpN.takeD (i := 6) (v := ?_) rfl rfl (by kernel_rfl) (fun _ _ _ h => h) (Or.inl ⟨by rfl, ?_⟩) (by assumption) ?_
            rotate_left
            · intro w hSw; rw [hSS.out] at hSw; obtain ⟨sw0, sw1⟩ := hSw; go_simp; try with_reducible rfl
            try simp only [Act.put, List.setIfInBounds_toArray, List.set_cons_zero, List.set_cons_succ]
            refine WpN.takeD (i := 7) (v := ?_) rfl rfl (by kernel_rfl) (fun _ _ _ h => h) (Or.inl ⟨by rfl, ?_⟩) (by assumption) ?_
            rotate_left
            · intro w hSw; rw [hSS.out] at hSw; obtain ⟨sw0, sw1⟩ := hSw; go_simp; try with_reducible rfl
            try simp only [Act.put, List.setIfInBounds_toArray, List.set_cons_zero, List.set_cons_succ]
            refine WpN.takeD (i := 8) (v := ?_) rfl rfl (by kernel_rfl) (fun _ _ _ h => h) (Or.inl ⟨by rfl, ?_⟩) (by assumption) ?_
            rotate_left
            · intro w hSw; rw [hSS.out] at hSw; obtain ⟨sw0, sw1⟩ := hSw; go_simp; try with_reducible rfl
            try simp only [Act.put, List.setIfInBounds_toArray, List.set_cons_zero, List.set_cons_succ]
            refine WpN.takeD (i := 9) (v := ?_) rfl rfl (by kernel_rfl) (fun _ _ _ h => h) (Or.inl ⟨by rfl, ?_⟩) (by assumption) ?_
            rotate_left
            · intro w hSw; rw [hSS.out] at hSw; obtain ⟨sw0, sw1⟩ := hSw; go_simp; try with_reducible rfl
            try simp only [Act.put, List.setIfInBounds_toArray, List.set_cons_zero, List.set_cons_succ]
            refine WpN.takeD (i := 10) (v := ?_) rfl rfl (by kernel_rfl) (fun _ _ _ h => h) (Or.inl ⟨by rfl, ?_⟩) (by assumption) ?_
            rotate_left
            · intro w hSw; rw [hSS.out] at hSw; obtain ⟨sw0, sw1⟩ := hSw; go_simp; try with_reducible rfl
            try simp only [Act.put, List.setIfInBounds_toArray, List.set_cons_zero, List.set_cons_succ]
            refine WpN.takeD (i := 11) (v := ?_) rfl rfl (by kernel_rfl) (fun _ _ _ h => h) (Or.inl ⟨by rfl, ?_⟩) (by assumption) ?_
            rotate_left
            · intro w hSw; rw [hSS.out] at hSw; obtain ⟨sw0, sw1⟩ := hSw; go_simp; try with_reducible rfl
            try simp only [Act.put, List.setIfInBounds_toArray, List.set_cons_zero, List.set_cons_succ]
            refine WpN.one (i := 12) rfl (by kernel_rfl) fun K hK => ?_
            go_wp2_with fail
            refine (add_first (w.heap.size) w.heap.size (w.heap.size + 1) v' (o ++ [z]) ⟨a, d, y⟩ w2.drew BB hO (Nat.le_refl _) (by omega) (by omega) hol9 HAD.out (.inr ⟨o, z, rfl, HJ.out⟩)).mono ?_
            rintro e w4 ⟨rfl, v4, BB4, hO4, hb4⟩
            refine hK.out _ _ ⟨fun h => by omega, ?_⟩
            refine WpN.done (by kernel_rfl) ?_ _
            clear hK K hSS hS0
            go_wp2_with fail
            go_roundw
            case rel => exact ⟨i + 1, o ++ [z] ++ [⟨a, d, y⟩], v4, by go_num, Lib.hid (.inl hlt), HB2, BB4, hO4, Lib.hid (HJB.out _ _ _ HJ2.out (hb4.mono (by omega))), Nat.le_trans hwr hb4.size⟩
            case measure => simp [intOf]; omega
end Go.Proofs.Ytdpibehpmghghaa
