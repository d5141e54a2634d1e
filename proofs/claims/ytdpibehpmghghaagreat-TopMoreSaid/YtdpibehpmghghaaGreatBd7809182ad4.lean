/- One text: Each. -/
import Derived.Test.YtdpibehpmghghaaGreatBda83c8c463d
/- The walk of imap.each: a map by what is told between two edges (printed by geneach.py). -/
namespace Go.Proofs.YtdpibehpmghghaaGreat
open Go.RowKit Go.Shelf

def ToldK (fn : Int → Option Int) (D : List Int) (i : Nat) (out : List PieceD) : Prop := (∀ b a, D[0]? = some b → D[i]? = some a → Told fn b a out) ∧ out.length ≤ i ∧ (∀ x, x ∈ out → I64 x.f ∧ I64 x.t ∧ I64 x.v)
section
variable {fn : Int → Option Int} {D : List Int} {i : Nat} {out o : List PieceD} {a c v : Int} {z : PieceD}
theorem ToldK.start : ToldK fn D 0 [] :=
  ⟨fun b a hb ha => by
    obtain rfl : b = a := by rw [hb] at ha; simpa using ha
    exact Told.start, Nat.le_refl _, fun x h => by simp at h⟩
theorem ToldK.skip (h : ToldK fn D i out) (hD : D.Pairwise (· < ·)) (hT : TurnsAt D none fn) (ha : D[i]? = some a) (hc : D[i + 1]? = some c) (hn : fn a = none) : ToldK fn D (i + 1) out :=
  ⟨fun b c' hb hc' => by
    obtain rfl : c = c' := by rw [hc] at hc'; simpa using hc'
    exact (h.1 b a hb ha).skip (rises_lt hD ha hc) (hT.const i a c ha hc) hn, by have := h.2.1; omega, h.2.2⟩
theorem ToldK.grow (h : ToldK fn D i (o ++ [z])) (hD : D.Pairwise (· < ·)) (hT : TurnsAt D none fn) (ha : D[i]? = some a) (hc : D[i + 1]? = some c) (hn : fn a = some v) (hz : joins z ⟨a, c, v⟩) (hi : I64 c) : ToldK fn D (i + 1) (o ++ [⟨z.f, c, z.v⟩]) :=
  ⟨fun b c' hb hc' => by
    obtain rfl : c = c' := by rw [hc] at hc'; simpa using hc'
    exact (h.1 b a hb ha).grow (rises_low hD hb ha) (rises_lt hD ha hc) (hT.const i a c ha hc) (by rw [hn, hz.2]) hz.1, by have := h.2.1; simp at this ⊢; omega, fun x hx => by
    rcases List.mem_append.1 hx with hx | hx
    · exact h.2.2 x (List.mem_append_left _ hx)
    · obtain rfl : x = _ := by simpa using hx
      exact ⟨(h.2.2 z (by simp)).1, hi, (h.2.2 z (by simp)).2.2⟩⟩
theorem ToldK.next (h : ToldK fn D i out) (hD : D.Pairwise (· < ·)) (hT : TurnsAt D none fn) (ha : D[i]? = some a) (hc : D[i + 1]? = some c) (hn : fn a = some v) (hz : ∀ y, y ∈ out → y.t = a → y.v ≠ v) (hia : I64 a) (hic : I64 c) (hiv : I64 v) : ToldK fn D (i + 1) (out ++ [⟨a, c, v⟩]) :=
  ⟨fun b c' hb hc' => by
    obtain rfl : c = c' := by rw [hc] at hc'; simpa using hc'
    exact (h.1 b a hb ha).next (rises_low hD hb ha) (rises_lt hD ha hc) (hT.const i a c ha hc) hn hz, by have := h.2.1; simp; omega, fun x hx => by
    rcases List.mem_append.1 hx with hx | hx
    · exact h.2.2 x hx
    · obtain rfl : x = _ := by simpa using hx
      exact ⟨hia, hic, hiv⟩⟩
theorem ToldK.last (h : ToldK fn D i (o ++ [z])) (ha : D[i]? = some a) (hz : ¬ joins z ⟨a, c, v⟩) : ∀ y, y ∈ o ++ [z] → y.t = a → y.v ≠ v := fun y hy e ev => by
  obtain ⟨b, hb⟩ := first_of_D ha
  have h1 := h.1 b a hb ha
  rcases List.mem_append.1 hy with hy | hy
  · have h2 := h1.map.ahead hy
    have h3 := h1.low z (by simp)
    omega
  · obtain rfl : y = z := by simpa using hy
    exact hz ⟨e, ev⟩
theorem ToldK.fin (h : ToldK fn D i out) (hD : D.Pairwise (· < ·)) (hT : TurnsAt D none fn) (hi : D.length ≤ i + 1) (h0 : i < D.length ∨ (D = [] ∧ out = [])) : MapL out ∧ ∀ t, atM out t = fn t := by
  rcases h0 with h0 | ⟨rfl, rfl⟩
  · obtain ⟨a, ha⟩ := get_lt h0
    obtain ⟨b, hb⟩ := first_of_D ha
    exact (h.1 b a hb ha).fin hD hT hb ha (by omega)
  · exact ⟨.nil, fun t => (hT.empty t).symm⟩
end
/-- What each tells: the values may be too far. -/
def EachSay (fn : Int → Option Int) (er : Int) (out : List PieceD) : Prop := ∃ U, MapL U ∧ (∀ t, atM U t = fn t) ∧ er = (if 200 < U.length then 2 else 0) ∧ out = if 200 < U.length then [] else U

set_option maxRecDepth 100000 in
set_option maxHeartbeats 16000000 in
theorem each_any (fn : Nat) (lb : Array Value) (f : Int → Option Int) (eg : ∀ args w, (callFunc fn args).run Tryz.prog w = .ok (.enter fn args) w) (A : Option Addr) (c : Nat) (D : List Int) (w : World) (hA : IntsAt w A c D) (hDl : D.length ≤ 10000)
    (hD : D.Pairwise (· < ·)) (hT : TurnsAt D none f) (hv : ∀ t v, f t = some v → I64 v)
    (hp : ∀ (W : World) (x : Int), Below w.heap.size w W → Calls Tryz.prog fn (#[.int .i64 x] ++ lb) W fun e w' => e = .returned (atV (f x)) ∧ Below W.heap.size W w') :
    Calls Tryz.prog 60 #[.slice A D.length c, .func (.func fn) #[] lb] w (MapOut (EachSay f) w) := by
  have HI64 := Lib.hid hA.i64
  have HP := Lib.hid hp; have HTD := Lib.hid hT; have HD := Lib.hid hD; have HV := Lib.hid hv
  have HI1 := Lib.hid hA
  have hD9 := hA.len
  clear hA hp hT hD hv
  go_enter Tryz.func60, Tryz.ntmps60
  go_wp2_with fail
  go_loopw [7] (fun v wr => ∃ (i : Nat) (out : List PieceD) (v' : Value), v = .int .i64 i ∧ Hid (i < D.length ∨ (D = [] ∧ i = 0 ∧ out = [])) ∧ Hid (ToldK f D i out) ∧ Blk wr w.heap.size 141 #[v'] ∧ Own pieceC 3 wr (w.heap.size + 1) 53 v' out ∧ Below w.heap.size w wr ∧ w.heap.size + 1 ≤ wr.heap.size) (fun v _ => D.length - (intOf v).toNat)
  case atStart => exact ⟨0, [], _, rfl, Lib.hid (by cases D with
    | nil => exact .inr ⟨rfl, rfl, rfl⟩
    | cons y r => exact .inl (by simp)), Lib.hid ToldK.start, Blk.new w _ _, Own.nil, by go_grown, by simp⟩
  case round =>
    obtain ⟨i, out, v', rfl, H0, HB, BB, hO, hb, hwr⟩ := hrel
    have hil : i ≤ D.length := by rcases H0.out with h | ⟨h, h2, _⟩ <;> omega
    have hol := HB.out.2.1
    by_cases hlt : i + 1 < D.length
    case neg =>
      have HF : Hid (MapL out ∧ ∀ t, atM out t = f t) := Lib.hid (HB.out.fin HD.out HTD.out (by omega) (H0.out.imp id fun h => ⟨h.1, h.2.2⟩))
      obtain ⟨Ao, co, rfl, hIo⟩ := own_pieces hO HB.out.2.2
      have hDn := bdone_any w.heap.size Ao out.length co wr BB
      by_cases hl : 200 < out.length
      · rw [if_pos hl] at hDn
        have HS : Hid (EachSay f 2 []) := Lib.hid ⟨out, HF.out.1, HF.out.2, by rw [if_pos hl], by rw [if_pos hl]⟩
        clear hl
        go_wp2_with (go_at_call 85; refine hDn.mono ?_; rintro e w' ⟨rfl, rfl⟩)
        refine bodyPost_ret (v := .tuple #[.slice none 0 0, .int .i64 2]) (by simp [results, Tryz.results60]) rfl ?_
        exact ⟨2, [], none, 0, HS, rfl, .nil, hb⟩
      · rw [if_neg hl] at hDn
        have HS : Hid (EachSay f 0 out) := Lib.hid ⟨out, HF.out.1, HF.out.2, by rw [if_neg hl], by rw [if_neg hl]⟩
        clear hl
        go_wp2_with (go_at_call 85; refine hDn.mono ?_; rintro e w' ⟨rfl, rfl⟩)
        refine bodyPost_ret (v := .tuple #[.slice Ao out.length co, .int .i64 0]) (by simp [results, Tryz.results60]) rfl ?_
        exact ⟨0, out, Ao, co, HS, rfl, hIo.since (Nat.le_succ _), hb⟩
    case pos =>
      obtain ⟨a, ha⟩ := get_lt (show i < D.length by omega)
      obtain ⟨d, hd⟩ := get_lt hlt
      obtain ⟨b, off, rfl, hb0, x0⟩ := HI1.out.get ha
      obtain ⟨b', off', e', _, x1⟩ := HI1.out.get hd
      obtain ⟨rfl, rfl⟩ : b = b' ∧ off = off' := by simpa using e'
      have HIA := Lib.hid (HI64.out a (List.mem_of_getElem? ha)); have HID := Lib.hid (HI64.out d (List.mem_of_getElem? hd))
      have HAD : Hid (a < d) := Lib.hid (rises_lt HD.out ha hd)
      have WX0 := Lib.hid x0; have WX1 := Lib.hid x1
      rw [← hb.cell (by exact hb0)] at x0 x1
      have HA := Lib.hid ha; have HDD := Lib.hid hd
      have hc := HP.out wr a hb
      have hil' : i < D.length := by omega
      have hltz : (i : Int) + 1 < (D.length : Int) := by omega
      have hiw : IntKind.i64.wrap ((i : Int) + 1) = (i : Int) + 1 := IntWalk.i64_in _ (by omega)
      have hol9 : out.length ≤ 100000 := by omega
      have hi0 : (0 : Int) ≤ (i : Int) + 1 := by omega
      clear ha hd e' x1
      cases hq : f a with
      | none =>
        rw [hq] at hc
        have HQ := Lib.hid hq
        unfold atV at hc
        simp only [Option.getD_none, Option.isSome_none] at hc
        clear hq
        go_wp2_with fail
        refine hc.mono ?_
        rintro e w' ⟨rfl, hb'⟩
        go_wp2_with fail
        go_roundw
        case rel => exact ⟨i + 1, out, v', by go_num, Lib.hid (.inl hlt), Lib.hid (HB.out.skip HD.out HTD.out HA.out HDD.out HQ.out), BB.ext hb', hO.ext hb', ext_trans hb hb', Nat.le_trans hwr hb'.size⟩
        case measure => simp [intOf]; omega
      | some y =>
        rw [hq] at hc
        have HQ := Lib.hid hq
        have HIY := Lib.hid (HV.out a y hq)
        unfold atV at hc
        simp only [Option.getD_some, Option.isSome_some] at hc
        clear hq
        go_wp2_with fail
        refine hc.mono ?_
        rintro e w2 ⟨rfl, hb2⟩
        have hO := hO.ext hb2
        have BB := BB.ext hb2
        have hb := ext_trans hb hb2
        have hwr := Nat.le_trans hwr hb2.size
        clear hb2 x0
        go_wp2_with fail
        rcases List.eq_nil_or_concat out with rfl | ⟨o, z, rfl⟩
        · have HB2 : Hid (ToldK f D (i + 1) ([] ++ [⟨a, d, y⟩])) := Lib.hid (HB.out.next HD.out HTD.out HA.out HDD.out HQ.out (fun y hy => by simp at hy) HIA.out HID.out HIY.out)
          obtain ⟨S, hSS⟩ : ∃ S : World → Prop, Hid (S = fun w' => w'.cell? ⟨b, off + i, none⟩ = some (.int .i64 a) ∧ w'.cell? ⟨b, off + (i + 1), none⟩ = some (.int .i64 d)) := ⟨_, Lib.hid rfl⟩
          have BB := BB.drew
          have hO := hO.drew
          have hb := below_drew hb
          have hwr : w.heap.size + 1 ≤ w2.drew.heap.size := hwr
          have hS0 : S w2.drew := by rw [hSS.out]; exact ⟨(hb.cell (p := ⟨b, off + i, none⟩) hb0).trans WX0.out, (hb.cell (p := ⟨b, off + (i + 1), none⟩) hb0).trans WX1.out⟩
          refine WpN.begin (S := S) 12 (by kernel_rfl) ?_
          refine WpN.takeD (i := 0) (v := ?_) rfl rfl (by kernel_rfl) (fun _ _ _ h => h) (Or.inl ⟨by rfl, ?_⟩) (by assumption) ?_
          rotate_left
          · intro w hSw; rw [hSS.out] at hSw; obtain ⟨sw0, sw1⟩ := hSw; go_simp; try with_reducible rfl
          try simp only [Act.put, List.setIfInBounds_toArray, List.set_cons_zero, List.set_cons_succ]
          refine WpN.takeD (i := 1) (v := ?_) rfl rfl (by kernel_rfl) (fun _ _ _ h => h) (Or.inl ⟨by rfl, ?_⟩) (by assumption) ?_
          rotate_left
          · intro w hSw; rw [hSS.out] at hSw; obtain ⟨sw0, sw1⟩ := hSw; go_simp; try with_reducible rfl
          try simp only [Act.put, List.setIfInBounds_toArray, List.set_cons_zero, List.set_cons_succ]
          refine WpN.takeD (i := 2) (v := ?_) rfl rfl (by kernel_rfl) (fun _ _ _ h => h) (Or.inl ⟨by rfl, ?_⟩) (by assumption) ?_
          rotate_left
          · intro w hSw; rw [hSS.out] at hSw; obtain ⟨sw0, sw1⟩ := hSw; go_simp; try with_reducible rfl
          try simp only [Act.put, List.setIfInBounds_toArray, List.set_cons_zero, List.set_cons_succ]
          refine WpN.takeD (i := 3) (v := ?_) rfl rfl (by kernel_rfl) (fun _ _ _ h => h) (Or.inl ⟨by rfl, ?_⟩) (by assumption) ?_
          rotate_left
          · intro w hSw; rw [hSS.out] at hSw; obtain ⟨sw0, sw1⟩ := hSw; go_simp; try with_reducible rfl
          try simp only [Act.put, List.setIfInBounds_toArray, List.set_cons_zero, List.set_cons_succ]
          refine WpN.takeD (i := 4) (v := ?_) rfl rfl (by kernel_rfl) (fun _ _ _ h => h) (Or.inl ⟨by rfl, ?_⟩) (by assumption) ?_
          rotate_left
          · intro w hSw; rw [hSS.out] at hSw; obtain ⟨sw0, sw1⟩ := hSw; go_simp; try with_reducible rfl
          try simp only [Act.put, List.setIfInBounds_toArray, List.set_cons_zero, List.set_cons_succ]
          refine WpN.takeD (i := 5) (v := ?_) rfl rfl (by kernel_rfl) (fun _ _ _ h => h) (Or.inl ⟨by rfl, ?_⟩) (by assumption) ?_
          rotate_left
          · intro w hSw; rw [hSS.out] at hSw; obtain ⟨sw0, sw1⟩ := hSw; go_simp; try with_reducible rfl
          try simp only [Act.put, List.setIfInBounds_toArray, List.set_cons_zero, List.set_cons_succ]
          refine WpN.takeD (i := 6) (v := ?_) rfl rfl (by kernel_rfl) (fun _ _ _ h => h) (Or.inl ⟨by rfl, ?_⟩) (by assumption) ?_
          rotate_left
          · intro w hSw; rw [hSS.out] at hSw; obtain ⟨sw0, sw1⟩ := hSw; go_simp; try with_reducible rfl
          try simp only [Act.put, List.setIfInBounds_toArray, List.set_cons_zero, List.set_cons_succ]
          refine WpN.takeD (i := 7) (v := ?_) rfl rfl (by kernel_rfl) (fun _ _ _ h => h) (Or.inl ⟨by rfl, ?_⟩) (by assumption) ?_
          rotate_left
          · intro w hSw; rw [hSS.out] at hSw; obtain ⟨sw0, sw1⟩ := hSw; go_simp; try with_reducible rfl
          try simp only [Act.put, List.setIfInBounds_toArray, List.set_cons_zero, List.set_cons_succ]
          refine WpN.takeD (i := 8) (v := ?_) rfl rfl (by kernel_rfl) (fun _ _ _ h => h) (Or.inl ⟨by rfl, ?_⟩) (by assumption) ?_
          rotate_left
          · intro w hSw; rw [hSS.out] at hSw; obtain ⟨sw0, sw1⟩ := hSw; go_simp; try with_reducible rfl
          try simp only [Act.put, List.setIfInBounds_toArray, List.set_cons_zero, List.set_cons_succ]
          refine WpN.takeD (i := 9) (v := ?_) rfl rfl (by kernel_rfl) (fun _ _ _ h => h) (Or.inl ⟨by rfl, ?_⟩) (by assumption) ?_
          rotate_left
          · intro w hSw; rw [hSS.out] at hSw; obtain ⟨sw0, sw1⟩ := hSw; go_simp; try with_reducible rfl
          try simp only [Act.put, List.setIfInBounds_toArray, List.set_cons_zero, List.set_cons_succ]
          refine WpN.takeD (i := 10) (v := ?_) rfl rfl (by kernel_rfl) (fun _ _ _ h => h) (Or.inl ⟨by rfl, ?_⟩) (by assumption) ?_
          rotate_left
          · intro w hSw; rw [hSS.out] at hSw; obtain ⟨sw0, sw1⟩ := hSw; go_simp; try with_reducible rfl
          try simp only [Act.put, List.setIfInBounds_toArray, List.set_cons_zero, List.set_cons_succ]
          refine WpN.takeD (i := 11) (v := ?_) rfl rfl (by kernel_rfl) (fun _ _ _ h => h) (Or.inl ⟨by rfl, ?_⟩) (by assumption) ?_
          rotate_left
          · intro w hSw; rw [hSS.out] at hSw; obtain ⟨sw0, sw1⟩ := hSw; go_simp; try with_reducible rfl
          try simp only [Act.put, List.setIfInBounds_toArray, List.set_cons_zero, List.set_cons_succ]
          refine WpN.one (i := 12) rfl (by kernel_rfl) fun K hK => ?_
          go_wp2_with fail
          refine (add_first (w.heap.size) w.heap.size (w.heap.size + 1) v' ([] : List PieceD) ⟨a, d, y⟩ w2.drew BB hO (Nat.le_refl _) (by omega) (by omega) hol9 HAD.out (.inl rfl)).mono ?_
          rintro e w4 ⟨rfl, v4, BB4, hO4, hb4⟩
          refine hK.out _ _ ⟨fun h => by omega, ?_⟩
          refine WpN.done (by kernel_rfl) ?_ _
          clear hK K hSS hS0
          go_wp2_with fail
          go_roundw
          case rel => exact ⟨i + 1, [] ++ [⟨a, d, y⟩], v4, by go_num, Lib.hid (.inl hlt), HB2, BB4, hO4, hb.trans (hb4.mono (by omega)), Nat.le_trans hwr hb4.size⟩
          case measure => simp [intOf]; omega
        · rw [List.concat_eq_append] at HB hO hol hol9
          by_cases hj : joins z ⟨a, d, y⟩
          · have HJ := Lib.hid hj
            have HB2 : Hid (ToldK f D (i + 1) (o ++ [⟨z.f, d, z.v⟩])) := Lib.hid (HB.out.grow HD.out HTD.out HA.out HDD.out HQ.out hj HID.out)
            clear hj
            obtain ⟨S, hSS⟩ : ∃ S : World → Prop, Hid (S = fun w' => w'.cell? ⟨b, off + i, none⟩ = some (.int .i64 a) ∧ w'.cell? ⟨b, off + (i + 1), none⟩ = some (.int .i64 d)) := ⟨_, Lib.hid rfl⟩
            have BB := BB.drew
            have hO := hO.drew
            have hb := below_drew hb
            have hwr : w.heap.size + 1 ≤ w2.drew.heap.size := hwr
            have hS0 : S w2.drew := by rw [hSS.out]; exact ⟨(hb.cell (p := ⟨b, off + i, none⟩) hb0).trans WX0.out, (hb.cell (p := ⟨b, off + (i + 1), none⟩) hb0).trans WX1.out⟩
            refine WpN.begin (S := S) 12 (by kernel_rfl) ?_
            refine WpN.takeD (i := 0) (v := ?_) rfl rfl (by kernel_rfl) (fun _ _ _ h => h) (Or.inl ⟨by rfl, ?_⟩) (by assumption) ?_
            rotate_left
            · intro w hSw; rw [hSS.out] at hSw; obtain ⟨sw0, sw1⟩ := hSw; go_simp; try with_reducible rfl
            try simp only [Act.put, List.setIfInBounds_toArray, List.set_cons_zero, List.set_cons_succ]
            refine WpN.takeD (i := 1) (v := ?_) rfl rfl (by kernel_rfl) (fun _ _ _ h => h) (Or.inl ⟨by rfl, ?_⟩) (by assumption) ?_
            rotate_left
            · intro w hSw; rw [hSS.out] at hSw; obtain ⟨sw0, sw1⟩ := hSw; go_simp; try with_reducible rfl
            try simp only [Act.put, List.setIfInBounds_toArray, List.set_cons_zero, List.set_cons_succ]
            refine WpN.takeD (i := 2) (v := ?_) rfl rfl (by kernel_rfl) (fun _ _ _ h => h) (Or.inl ⟨by rfl, ?_⟩) (by assumption) ?_
            rotate_left
            · intro w hSw; rw [hSS.out] at hSw; obtain ⟨sw0, sw1⟩ := hSw; go_simp; try with_reducible rfl
            try simp only [Act.put, List.setIfInBounds_toArray, List.set_cons_zero, List.set_cons_succ]
            refine WpN.takeD (i := 3) (v := ?_) rfl rfl (by kernel_rfl) (fun _ _ _ h => h) (Or.inl ⟨by rfl, ?_⟩) (by assumption) ?_
            rotate_left
            · intro w hSw; rw [hSS.out] at hSw; obtain ⟨sw0, sw1⟩ := hSw; go_simp; try with_reducible rfl
            try simp only [Act.put, List.setIfInBounds_toArray, List.set_cons_zero, List.set_cons_succ]
            refine WpN.takeD (i := 4) (v := ?_) rfl rfl (by kernel_rfl) (fun _ _ _ h => h) (Or.inl ⟨by rfl, ?_⟩) (by assumption) ?_
            rotate_left
            · intro w hSw; rw [hSS.out] at hSw; obtain ⟨sw0, sw1⟩ := hSw; go_simp; try with_reducible rfl
            try simp only [Act.put, List.setIfInBounds_toArray, List.set_cons_zero, List.set_cons_succ]
            refine WpN.takeD (i := 5) (v := ?_) rfl rfl (by kernel_rfl) (fun _ _ _ h => h) (Or.inl ⟨by rfl, ?_⟩) (by assumption) ?_
            rotate_left
            · intro w hSw; rw [hSS.out] at hSw; obtain ⟨sw0, sw1⟩ := hSw; go_simp; try with_reducible rfl
            try simp only [Act.put, List.setIfInBounds_toArray, List.set_cons_zero, List.set_cons_succ]
            refine WpN.takeD (i := 6) (v := ?_) rfl rfl (by kernel_rfl) (fun _ _ _ h => h) (Or.inl ⟨by rfl, ?_⟩) (by assumption) ?_
            rotate_left
            · intro w hSw; rw [hSS.out] at hSw; obtain ⟨sw0, sw1⟩ := hSw; go_simp; try with_reducible rfl
            try simp only [Act.put, List.setIfInBounds_toArray, List.set_cons_zero, List.set_cons_succ]
            refine WpN.takeD (i := 7) (v := ?_) rfl rfl (by kernel_rfl) (fun _ _ _ h => h) (Or.inl ⟨by rfl, ?_⟩) (by assumption) ?_
            rotate_left
            · intro w hSw; rw [hSS.out] at hSw; obtain ⟨sw0, sw1⟩ := hSw; go_simp; try with_reducible rfl
            try simp only [Act.put, List.setIfInBounds_toArray, List.set_cons_zero, List.set_cons_succ]
            refine WpN.takeD (i := 8) (v := ?_) rfl rfl (by kernel_rfl) (fun _ _ _ h => h) (Or.inl ⟨by rfl, ?_⟩) (by assumption) ?_
            rotate_left
            · intro w hSw; rw [hSS.out] at hSw; obtain ⟨sw0, sw1⟩ := hSw; go_simp; try with_reducible rfl
            try simp only [Act.put, List.setIfInBounds_toArray, List.set_cons_zero, List.set_cons_succ]
            refine WpN.takeD (i := 9) (v := ?_) rfl rfl (by kernel_rfl) (fun _ _ _ h => h) (Or.inl ⟨by rfl, ?_⟩) (by assumption) ?_
            rotate_left
            · intro w hSw; rw [hSS.out] at hSw; obtain ⟨sw0, sw1⟩ := hSw; go_simp; try with_reducible rfl
            try simp only [Act.put, List.setIfInBounds_toArray, List.set_cons_zero, List.set_cons_succ]
            refine WpN.takeD (i := 10) (v := ?_) rfl rfl (by kernel_rfl) (fun _ _ _ h => h) (Or.inl ⟨by rfl, ?_⟩) (by assumption) ?_
            rotate_left
            · intro w hSw; rw [hSS.out] at hSw; obtain ⟨sw0, sw1⟩ := hSw; go_simp; try with_reducible rfl
            try simp only [Act.put, List.setIfInBounds_toArray, List.set_cons_zero, List.set_cons_succ]
            refine WpN.takeD (i := 11) (v := ?_) rfl rfl (by kernel_rfl) (fun _ _ _ h => h) (Or.inl ⟨by rfl, ?_⟩) (by assumption) ?_
            rotate_left
            · intro w hSw; rw [hSS.out] at hSw; obtain ⟨sw0, sw1⟩ := hSw; go_simp; try with_reducible rfl
            try simp only [Act.put, List.setIfInBounds_toArray, List.set_cons_zero, List.set_cons_succ]
            refine WpN.one (i := 12) rfl (by kernel_rfl) fun K hK => ?_
            go_wp2_with fail
            refine (add_grow (w.heap.size) w.heap.size (w.heap.size + 1) v' o z ⟨a, d, y⟩ w2.drew BB hO (Nat.le_refl _) (by omega) (by omega) hol9 HAD.out HJ.out).mono ?_
            rintro e w4 ⟨rfl, v4, BB4, hO4, hb4⟩
            refine hK.out _ _ ⟨fun h => by omega, ?_⟩
            refine WpN.done (by kernel_rfl) ?_ _
            clear hK K hSS hS0
            go_wp2_with fail
            go_roundw
            case rel => exact ⟨i + 1, o ++ [⟨z.f, d, z.v⟩], v4, by go_num, Lib.hid (.inl hlt), HB2, BB4, hO4, hb.trans (hb4.mono (by omega)), Nat.le_trans hwr hb4.size⟩
            case measure => simp [intOf]; omega
          · have HJ := Lib.hid hj
            have HB2 : Hid (ToldK f D (i + 1) (o ++ [z] ++ [⟨a, d, y⟩])) := Lib.hid (HB.out.next HD.out HTD.out HA.out HDD.out HQ.out (HB.out.last HA.out hj) HIA.out HID.out HIY.out)
            clear hj
            obtain ⟨S, hSS⟩ : ∃ S : World → Prop, Hid (S = fun w' => w'.cell? ⟨b, off + i, none⟩ = some (.int .i64 a) ∧ w'.cell? ⟨b, off + (i + 1), none⟩ = some (.int .i64 d)) := ⟨_, Lib.hid rfl⟩
            have BB := BB.drew
            have hO := hO.drew
            have hb := below_drew hb
            have hwr : w.heap.size + 1 ≤ w2.drew.heap.size := hwr
            have hS0 : S w2.drew := by rw [hSS.out]; exact ⟨(hb.cell (p := ⟨b, off + i, none⟩) hb0).trans WX0.out, (hb.cell (p := ⟨b, off + (i + 1), none⟩) hb0).trans WX1.out⟩
            refine WpN.begin (S := S) 12 (by kernel_rfl) ?_
            refine WpN.takeD (i := 0) (v := ?_) rfl rfl (by kernel_rfl) (fun _ _ _ h => h) (Or.inl ⟨by rfl, ?_⟩) (by assumption) ?_
            rotate_left
            · intro w hSw; rw [hSS.out] at hSw; obtain ⟨sw0, sw1⟩ := hSw; go_simp; try with_reducible rfl
            try simp only [Act.put, List.setIfInBounds_toArray, List.set_cons_zero, List.set_cons_succ]
            refine WpN.takeD (i := 1) (v := ?_) rfl rfl (by kernel_rfl) (fun _ _ _ h => h) (Or.inl ⟨by rfl, ?_⟩) (by assumption) ?_
            rotate_left
            · intro w hSw; rw [hSS.out] at hSw; obtain ⟨sw0, sw1⟩ := hSw; go_simp; try with_reducible rfl
            try simp only [Act.put, List.setIfInBounds_toArray, List.set_cons_zero, List.set_cons_succ]
            refine WpN.takeD (i := 2) (v := ?_) rfl rfl (by kernel_rfl) (fun _ _ _ h => h) (Or.inl ⟨by rfl, ?_⟩) (by assumption) ?_
            rotate_left
            · intro w hSw; rw [hSS.out] at hSw; obtain ⟨sw0, sw1⟩ := hSw; go_simp; try with_reducible rfl
            try simp only [Act.put, List.setIfInBounds_toArray, List.set_cons_zero, List.set_cons_succ]
            refine WpN.takeD (i := 3) (v := ?_) rfl rfl (by kernel_rfl) (fun _ _ _ h => h) (Or.inl ⟨by rfl, ?_⟩) (by assumption) ?_
            rotate_left
            · intro w hSw; rw [hSS.out] at hSw; obtain ⟨sw0, sw1⟩ := hSw; go_simp; try with_reducible rfl
            try simp only [Act.put, List.setIfInBounds_toArray, List.set_cons_zero, List.set_cons_succ]
            refine WpN.takeD (i := 4) (v := ?_) rfl rfl (by kernel_rfl) (fun _ _ _ h => h) (Or.inl ⟨by rfl, ?_⟩) (by assumption) ?_
            rotate_left
            · intro w hSw; rw [hSS.out] at hSw; obtain ⟨sw0, sw1⟩ := hSw; go_simp; try with_reducible rfl
            try simp only [Act.put, List.setIfInBounds_toArray, List.set_cons_zero, List.set_cons_succ]
            refine WpN.takeD (i := 5) (v := ?_) rfl rfl (by kernel_rfl) (fun _ _ _ h => h) (Or.inl ⟨by rfl, ?_⟩) (by assumption) ?_
            rotate_left
            · intro w hSw; rw [hSS.out] at hSw; obtain ⟨sw0, sw1⟩ := hSw; go_simp; try with_reducible rfl
            try simp only [Act.put, List.setIfInBounds_toArray, List.set_cons_zero, List.set_cons_succ]
            refine WpN.takeD (i := 6) (v := ?_) rfl rfl (by kernel_rfl) (fun _ _ _ h => h) (Or.inl ⟨by rfl, ?_⟩) (by assumption) ?_
            rotate_left
            · intro w hSw; rw [hSS.out] at hSw; obtain ⟨sw0, sw1⟩ := hSw; go_simp; try with_reducible rfl
            try simp only [Act.put, List.setIfInBounds_toArray, List.set_cons_zero, List.set_cons_succ]
            refine WpN.takeD (i := 7) (v := ?_) rfl rfl (by kernel_rfl) (fun _ _ _ h => h) (Or.inl ⟨by rfl, ?_⟩) (by assumption) ?_
            rotate_left
            · intro w hSw; rw [hSS.out] at hSw; obtain ⟨sw0, sw1⟩ := hSw; go_simp; try with_reducible rfl
            try simp only [Act.put, List.setIfInBounds_toArray, List.set_cons_zero, List.set_cons_succ]
            refine WpN.takeD (i := 8) (v := ?_) rfl rfl (by kernel_rfl) (fun _ _ _ h => h) (Or.inl ⟨by rfl, ?_⟩) (by assumption) ?_
            rotate_left
            · intro w hSw; rw [hSS.out] at hSw; obtain ⟨sw0, sw1⟩ := hSw; go_simp; try with_reducible rfl
            try simp only [Act.put, List.setIfInBounds_toArray, List.set_cons_zero, List.set_cons_succ]
            refine WpN.takeD (i := 9) (v := ?_) rfl rfl (by kernel_rfl) (fun _ _ _ h => h) (Or.inl ⟨by rfl, ?_⟩) (by assumption) ?_
            rotate_left
            · intro w hSw; rw [hSS.out] at hSw; obtain ⟨sw0, sw1⟩ := hSw; go_simp; try with_reducible rfl
            try simp only [Act.put, List.setIfInBounds_toArray, List.set_cons_zero, List.set_cons_succ]
            refine WpN.takeD (i := 10) (v := ?_) rfl rfl (by kernel_rfl) (fun _ _ _ h => h) (Or.inl ⟨by rfl, ?_⟩) (by assumption) ?_
            rotate_left
            · intro w hSw; rw [hSS.out] at hSw; obtain ⟨sw0, sw1⟩ := hSw; go_simp; try with_reducible rfl
            try simp only [Act.put, List.setIfInBounds_toArray, List.set_cons_zero, List.set_cons_succ]
            refine WpN.takeD (i := 11) (v := ?_) rfl rfl (by kernel_rfl) (fun _ _ _ h => h) (Or.inl ⟨by rfl, ?_⟩) (by assumption) ?_
            rotate_left
            · intro w hSw; rw [hSS.out] at hSw; obtain ⟨sw0, sw1⟩ := hSw; go_simp; try with_reducible rfl
            try simp only [Act.put, List.setIfInBounds_toArray, List.set_cons_zero, List.set_cons_succ]
            refine WpN.one (i := 12) rfl (by kernel_rfl) fun K hK => ?_
            go_wp2_with fail
            refine (add_first (w.heap.size) w.heap.size (w.heap.size + 1) v' (o ++ [z]) ⟨a, d, y⟩ w2.drew BB hO (Nat.le_refl _) (by omega) (by omega) hol9 HAD.out (.inr ⟨o, z, rfl, HJ.out⟩)).mono ?_
            rintro e w4 ⟨rfl, v4, BB4, hO4, hb4⟩
            refine hK.out _ _ ⟨fun h => by omega, ?_⟩
            refine WpN.done (by kernel_rfl) ?_ _
            clear hK K hSS hS0
            go_wp2_with fail
            go_roundw
            case rel => exact ⟨i + 1, o ++ [z] ++ [⟨a, d, y⟩], v4, by go_num, Lib.hid (.inl hlt), HB2, BB4, hO4, hb.trans (hb4.mono (by omega)), Nat.le_trans hwr hb4.size⟩
            case measure => simp [intOf]; omega
end Go.Proofs.YtdpibehpmghghaaGreat
