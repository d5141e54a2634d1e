/- Several texts in one: RefSets, IvlLaw4. -/
import Derived.Test.YtcfachfldanddaaBdd8edcd17ab
import Derived.Test.YtcfachfldanddaaBd61a3587cbe
import Derived.Test.YtcfachfldanddaaBda3311635f0
/- The walk of the document's Sets. -/
namespace Go.Proofs.Ytcfachfldanddaa
open Go.RowKit Go.Shelf

/-- What a number says of two sets. -/
def opK (k : Nat) : Bool → Bool → Bool := if k = 0 then opOr else if k = 1 then opAnd else opNot
theorem opK_none (k : Nat) : opK k false false = false := by unfold opK; split; rfl; split <;> rfl
theorem enters_sets1 : Enters Try.prog 76 := enters_of Try.func76 (by kernel_rfl) rfl
set_option maxRecDepth 100000 in
set_option maxHeartbeats 4000000 in
theorem sets1_any (k : Nat) (hk : k ≤ 2) (A B : Option Addr) (c d ba bb bh : Nat) (a b : List IvlD) (t : Int) (W : World) (hca : W.cell? ⟨ba, 0, none⟩ = some (.slice A a.length c)) (hcb : W.cell? ⟨bb, 0, none⟩ = some (.slice B b.length d))
    (hch : W.cell? ⟨bh, 0, none⟩ = some (.int .i64 k)) (hA : IvlsAt W A c a) (hB : IvlsAt W B d b) :
    Calls Try.prog 76 #[.int .i64 t, .pointer (some ⟨ba, 0, none⟩), .pointer (some ⟨bb, 0, none⟩), .pointer (some ⟨bh, 0, none⟩)] W fun e w' => e = .returned (.bool (opK k (hasB a t) (hasB b t))) ∧ Below W.heap.size W w' := by
  obtain ⟨p, hp⟩ : ∃ p, hasB a t = p := ⟨_, rfl⟩
  obtain ⟨q, hq⟩ : ∃ q, hasB b t = q := ⟨_, rfl⟩
  have hqa : ∀ n, Calls Try.prog 27 #[.slice A a.length c, .int .i64 t] (W.drewN n) (fun e w'' => e = .returned (.bool p) ∧ ∃ m, w'' = W.drewN m) := fun n => (refHas_any A c a t _ (hA.drewN n)).mono fun _ _ ⟨h1, h2⟩ => ⟨by rw [h1, hp], n, h2.symm⟩
  have hqb : ∀ n, Calls Try.prog 27 #[.slice B b.length d, .int .i64 t] (W.drewN n) (fun e w'' => e = .returned (.bool q) ∧ ∃ m, w'' = W.drewN m) := fun n => (refHas_any B d b t _ (hB.drewN n)).mono fun _ _ ⟨h1, h2⟩ => ⟨by rw [h1, hq], n, h2.symm⟩
  have hlh : bh < W.heap.size := World.block_lt_of_cell? W _ hch
  rw [hp, hq]
  clear hp hq hA hB
  have hk3 : k = 0 ∨ k = 1 ∨ k = 2 := by omega
  rcases hk3 with rfl | rfl | rfl
  all_goals
    have hch2 : ∀ (n : Nat) (o : Obj), ((W.drewN n).alloc o).cell? ⟨bh, 0, none⟩ = W.cell? ⟨bh, 0, none⟩ := fun n o => (ext_alloc (Below.refl _ (W.drewN n)) o).cell (p := ⟨bh, 0, none⟩) hlh
    rw [hch] at hch2
    have hnw : ∀ (n : Nat) (cs : Array Value) (j : Nat), ((W.drewN n).alloc (Obj.cells cs 4)).cell? ⟨W.heap.size, j, none⟩ = cs[j]? := fun n cs j => (Blk.new (W.drewN n) 4 cs).cell j
    go_enter Try.func76, Try.ntmps76
    go_wp2_with fail
    go_quiet (first | (go_at_call_of 27 a; exact hqa _) | (go_at_call_of 27 b; exact hqb _))
    clear hqa hqb
    cases p <;> cases q
    all_goals
      go_wp2_with fail
      go_ret
      exact ⟨rfl, (below_drewN (Below.refl _ W) _).alloc (Nat.le_refl _) _⟩

set_option maxRecDepth 100000 in
set_option maxHeartbeats 8000000 in
theorem refSets_any (k : Nat) (hk : k ≤ 2) (A B : Option Addr) (c d : Nat) (a b : List IvlD) (w : World) (hA : IvlsAt w A c a) (hB : IvlsAt w B d b) :
    Calls Try.prog 28 #[.slice A a.length c, .slice B b.length d, .int .i64 k] w (SetOut (SetsSay (opK k) a b) w) := by
  have HA := Lib.hid hA; have HB := Lib.hid hB
  have hmf : ∀ (fn : Fn) (first cap : Array Value) (w : World), (Instr.makeFunc fn first cap).run Try.prog w = .ok (.func fn first cap) w := fun _ _ _ _ => rfl
  have hent := enters_sets1
  unfold Enters at hent
  obtain ⟨i0, hi, hz0, hz1, hz2⟩ := info_int2
  have hsa := fun W (h : IvlsAt W A c a) => refSet_any A c a W h
  have hsb := fun W (h : IvlsAt W B d b) => refSet_any B d b W h
  have hk1 : (k : Int) ≤ 2 := by omega
  clear hA hB
  go_enter Try.func28, Try.ntmps28
  go_wp2_with fail
  obtain ⟨w0, hw0⟩ : ∃ w0, w0 = (((w.alloc (Obj.cells #[.slice A a.length c] 22)).alloc (Obj.cells #[.slice B b.length d] 22)).alloc (Obj.cells #[.int .i64 k] 3)) := ⟨_, rfl⟩
  have hb0 : Below w.heap.size w w0 := by rw [hw0]; go_grown
  have Ba : Blk w0 w.heap.size 22 #[.slice A a.length c] := by rw [hw0]; exact ((Blk.new _ _ _).alloc _).alloc _
  have Bb : Blk w0 (w.heap.size + 1) 22 #[.slice B b.length d] := by rw [hw0]; exact (Blk.new_ (by simp)).alloc _
  have Bh : Blk w0 (w.heap.size + 1 + 1) 3 #[.int .i64 k] := by rw [hw0]; exact Blk.new_ (by simp)
  rw [← hw0]
  clear hw0
  refine (hsa _ (HA.out.ext hb0)).mono ?_
  by_cases h0 : setErr a = 0
  case neg =>
    have hd : (setErr a != 0) = true := by simpa using h0
    have HS : Hid (SetsSay (opK k) a b (setErr a) []) := Lib.hid (SetsSay.badA h0)
    clear h0 hsa hsb
    obtain ⟨er, her⟩ : ∃ er, setErr a = er := ⟨_, rfl⟩
    rw [her] at hd HS ⊢
    clear her
    rintro e w1 ⟨rfl, hb1⟩
    go_wp2_with fail
    refine bodyPost_ret (v := .tuple #[.slice none 0 0, .int .i64 er]) (by simp [results, Try.results28]) rfl ?_
    exact ⟨er, [], none, 0, HS, rfl, IvlsAt.nil, ext_trans hb0 hb1⟩
  case pos =>
  have HEA := Lib.hid h0
  rw [h0]
  clear h0 hsa
  rintro e w1 ⟨rfl, hb1⟩
  have Ba := Ba.ext hb1; have Bb := Bb.ext hb1; have Bh := Bh.ext hb1
  have hb1 := ext_trans hb0 hb1
  clear hb0
  obtain ⟨c1, c2, c3⟩ := Bb.facts
  go_wp2_with fail
  refine (hsb _ (HB.out.ext hb1)).mono ?_
  by_cases h0 : setErr b = 0
  case neg =>
    have hd : (setErr b != 0) = true := by simpa using h0
    have HS : Hid (SetsSay (opK k) a b (setErr b) []) := Lib.hid (SetsSay.badB HEA.out h0)
    clear h0 hsb
    obtain ⟨er, her⟩ : ∃ er, setErr b = er := ⟨_, rfl⟩
    rw [her] at hd HS ⊢
    clear her
    rintro e w2 ⟨rfl, hb2⟩
    go_wp2_with fail
    refine bodyPost_ret (v := .tuple #[.slice none 0 0, .int .i64 er]) (by simp [results, Try.results28]) rfl ?_
    exact ⟨er, [], none, 0, HS, rfl, IvlsAt.nil, ext_trans hb1 hb2⟩
  case pos =>
  have HEB := Lib.hid h0
  rw [h0]
  clear h0 hsb
  rintro e w2 ⟨rfl, hb2⟩
  have Ba := Ba.ext hb2; have Bb := Bb.ext hb2; have Bh := Bh.ext hb2
  have hb2 := ext_trans hb1 hb2
  clear hb1 c1 c2 c3
  go_wp2_with fail
  obtain ⟨S, hSS⟩ : ∃ S : World → Prop, Hid (S = fun w' => w'.cell? ⟨w.heap.size, 0, none⟩ = some (.slice A a.length c) ∧ w'.cell? ⟨w.heap.size + 1, 0, none⟩ = some (.slice B b.length d)) := ⟨_, Lib.hid rfl⟩
  have Ba := Ba.drew; have Bb := Bb.drew; have Bh := Bh.drew
  have hS0 : S w2.drew := by rw [hSS.out]; exact ⟨Ba.cell 0, Bb.cell 0⟩
  have hb2 := below_drew hb2
  have HBL : Hid (w.heap.size < w2.drew.heap.size ∧ w.heap.size + 1 < w2.drew.heap.size ∧ w.heap.size + 1 + 1 < w2.drew.heap.size) := Lib.hid ⟨Ba.lt, Bb.lt, Bh.lt⟩
  have hzw2 := hb2.size
  have hla := setErr_zero HEA.out; have hlb := setErr_zero HEB.out
  have HLA := Lib.hid hla; have HLB := Lib.hid hlb
  clear hla hlb
  refine WpN.begin (S := S) 7 (by kernel_rfl) ?_
  refine WpN.takeD (i := 0) (v := ?_) rfl rfl (by kernel_rfl) (fun _ _ _ h => h) (Or.inl ⟨by rfl, ?_⟩) (by assumption) ?_
  rotate_left
  · intro w hSw; rw [hSS.out] at hSw; obtain ⟨sw0, sw1⟩ := hSw; go_simp; try with_reducible rfl
  simp only [Act.put, List.setIfInBounds_toArray, List.set_cons_zero, List.set_cons_succ]
  refine WpN.takeD (i := 2) (v := ?_) rfl rfl (by kernel_rfl) (fun _ _ _ h => h) (Or.inl ⟨by rfl, ?_⟩) (by assumption) ?_
  rotate_left
  · intro w hSw; rw [hSS.out] at hSw; obtain ⟨sw0, sw1⟩ := hSw; go_simp; try with_reducible rfl
  simp only [Act.put, List.setIfInBounds_toArray, List.set_cons_zero, List.set_cons_succ]
  refine WpN.takeD (i := 5) (v := ?_) rfl rfl (by kernel_rfl) (fun _ _ _ h => h) (Or.inl ⟨by rfl, ?_⟩) (by assumption) ?_
  rotate_left
  · intro w hSw; rw [hSS.out] at hSw; obtain ⟨sw0, sw1⟩ := hSw; go_simp; try with_reducible rfl
  simp only [Act.put, List.setIfInBounds_toArray, List.set_cons_zero, List.set_cons_succ]
  refine WpN.one (i := 1) rfl (by kernel_rfl) fun K hK => ?_
  go_wp2_with (first | (refine (ends_any A c a _ (HA.out.ext hb2) (by have := HLA.out.1; omega)).mono ?_; rintro e w4 ⟨v4, rfl, O4, hb4⟩))
  have Ba := Ba.ext hb4; have Bb := Bb.ext hb4; have Bh := Bh.ext hb4
  have hS1 : S w4 := by rw [hSS.out]; exact ⟨Ba.cell 0, Bb.cell 0⟩
  have hz4 := hb4.size
  have hb4' := ext_trans hb2 hb4
  refine hK.out _ _ ⟨fun _ => hS1, ?_⟩
  clear hK K hb4
  refine WpN.one (i := 3) rfl (by kernel_rfl) fun K hK => ?_
  go_wp2_with (first | (refine (ends_any B d b _ (HB.out.ext hb4') (by have := HLB.out.1; omega)).mono ?_; rintro e w5 ⟨v5, rfl, O5, hb5⟩))
  have Ba := Ba.ext hb5; have Bb := Bb.ext hb5; have Bh := Bh.ext hb5
  have hS2 : S w5 := by rw [hSS.out]; exact ⟨Ba.cell 0, Bb.cell 0⟩
  have O4 := O4.ext hb5
  have hz5 := hb5.size
  have hb5' := ext_trans hb4' hb5
  refine hK.out _ _ ⟨fun _ => hS2, ?_⟩
  clear hK K hb5 hb4'
  refine WpN.one (i := 4) rfl (by kernel_rfl) fun K hK => ?_
  refine wp_append_two (enc := intEnc) (.tmp 22) (.tmp 24) 81 rfl w2.drew.heap.size w4.heap.size 3 i0 _ 1 8 Try.underlying81 hi hz0 hz1 hz2 rfl (by decide) v4 v5 (endsI a) (endsI b) rfl rfl O4 O5 (ints_one _) (by rw [endsI_len, endsI_len]; have := HLA.out.1; have := HLB.out.1; omega) (by decide) (by omega) ?_
  intro v6 w6 O6 hb6
  obtain ⟨qs, hqs⟩ : ∃ q, q = endsI a ++ endsI b := ⟨_, rfl⟩
  rw [← hqs] at O6
  have HQS := Lib.hid hqs
  clear hqs
  have hba : w.heap.size < w2.drew.heap.size ∧ w.heap.size + 1 < w2.drew.heap.size ∧ w.heap.size + 1 + 1 < w2.drew.heap.size := HBL.out
  have Ba := Ba.below hb6 hba.1; have Bb := Bb.below hb6 hba.2.1; have Bh := Bh.below hb6 hba.2.2
  have hS3 : S w6 := by rw [hSS.out]; exact ⟨Ba.cell 0, Bb.cell 0⟩
  have hb6' : Below w.heap.size w w6 := hb5'.trans (hb6.mono (by omega))
  obtain ⟨A6, c6, rfl, hI6⟩ := own_ints O6 (fun n hn => by
    rw [HQS.out] at hn
    rcases List.mem_append.1 hn with hn | hn
    · obtain ⟨x, hx, h⟩ := mem_endsI.1 hn
      have := HLA.out.2.near x hx
      rcases h with rfl | rfl
      · exact near_i64 this.1
      · exact near_i64 this.2
    · obtain ⟨x, hx, h⟩ := mem_endsI.1 hn
      have := HLB.out.2.near x hx
      rcases h with rfl | rfl
      · exact near_i64 this.1
      · exact near_i64 this.2)
  have hT := those_any 76 #[.pointer (some ⟨w.heap.size, 0, none⟩), .pointer (some ⟨w.heap.size + 1, 0, none⟩), .pointer (some ⟨w.heap.size + 1 + 1, 0, none⟩)] (fun t => opK k (hasB a t) (hasB b t)) hent A6 c6 qs w6 hI6
    (by rw [HQS.out, List.length_append, endsI_len, endsI_len]; have := HLA.out.1; have := HLB.out.1; omega)
    (fun D h1 h2 => (ends_turns h1 h2 fun _ h => by rw [HQS.out]; exact List.mem_append_left _ h).map2 (opK k) (opK_none k) (ends_turns h1 h2 fun _ h => by rw [HQS.out]; exact List.mem_append_right _ h))
    (fun W x hb => sets1_any k hk A B c d w.heap.size (w.heap.size + 1) (w.heap.size + 1 + 1) a b x W ((Ba.ext hb).cell 0) ((Bb.ext hb).cell 0) ((Bh.ext hb).cell 0) ((HA.out.ext hb6').ext hb) ((HB.out.ext hb6').ext hb))
  refine hK.out _ _ ⟨fun _ => hS3, ?_⟩
  clear hK K hb5' hb6 O4 O5 O6
  refine WpN.one (i := 6) rfl (by kernel_rfl) fun K hK => ?_
  go_wp2_with (first | (refine hT.mono ?_; rintro e w7 ⟨A7, c7, out, HO, rfl, hI7, hb7⟩))
  have Ba := Ba.ext hb7; have Bb := Bb.ext hb7
  have hS4 : S w7 := by rw [hSS.out]; exact ⟨Ba.cell 0, Bb.cell 0⟩
  have hb7' := ext_trans hb6' hb7
  refine hK.out _ _ ⟨fun _ => hS4, ?_⟩
  clear hK K hT hb7
  refine WpN.one (i := 7) rfl (by kernel_rfl) fun K hK => ?_
  go_wp2_with fail
  refine hK.out _ _ ⟨fun h => absurd h (by decide), ?_⟩
  refine WpN.done (by kernel_rfl) ?_ _
  clear hK K hSS hS0 hS1 hS2 hS3 hS4
  by_cases hl : 200 < out.length
  case pos =>
    have hd : decide ((out.length : Int) > 200) = true := by simp; omega
    have HS : Hid (SetsSay (opK k) a b 2 []) := Lib.hid (SetsSay.large HEA.out HEB.out HO.out.1 HO.out.2 hl)
    clear hl
    go_wp2_with fail
    refine bodyPost_ret (v := .tuple #[.slice none 0 0, .int .i64 2]) (by simp [results, Try.results28]) rfl ?_
    exact ⟨2, [], none, 0, HS, rfl, IvlsAt.nil, hb7'⟩
  case neg =>
    have hd : decide ((out.length : Int) > 200) = false := by simp; omega
    have HS : Hid (SetsSay (opK k) a b 0 out) := Lib.hid (SetsSay.good HEA.out HEB.out HO.out.1 HO.out.2 hl)
    clear hl
    go_wp2_with fail
    refine bodyPost_ret (v := .tuple #[.slice A7 out.length c7, .int .i64 0]) (by simp [results, Try.results28]) rfl ?_
    exact ⟨0, out, A7, c7, HS, rfl, hI7, hb7'⟩
end Go.Proofs.Ytcfachfldanddaa
/- The walk of the law IvlSets. -/
namespace Go.Proofs.Ytcfachfldanddaa
open Go.RowKit Go.Shelf

theorem enters_union : Enters Try.prog 19 := enters_of Try.func19 (by kernel_rfl) rfl
theorem enters_meet : Enters Try.prog 20 := enters_of Try.func20 (by kernel_rfl) rfl
theorem enters_minus : Enters Try.prog 21 := enters_of Try.func21 (by kernel_rfl) rfl
set_option maxRecDepth 100000 in
set_option maxHeartbeats 8000000 in
theorem ivlSets_calls (A0 : Option Addr) (c0 : Nat) (a : List IvlD) {w0 : World} (hI0 : IvlsAt w0 A0 c0 a) (A1 : Option Addr) (c1 : Nat) (b : List IvlD) (hI1 : IvlsAt w0 A1 c1 b) :
    Calls Try.prog 6 #[.slice A0 a.length c0, .slice A1 b.length c1] w0 fun e w' => e = .returned (.bool true) ∧ Below w0.heap.size w0 w' := by
  have H0 := Lib.hid hI0; have H1 := Lib.hid hI1
  have e0 := enters_union; have e1 := enters_meet; have e2 := enters_minus
  unfold Enters at e0 e1 e2
  clear hI0 hI1
  go_enter Try.func6, Try.ntmps6
  go_wp2_with fail
  obtain ⟨wa, hwa⟩ : ∃ wa, wa = w0.alloc (Obj.cells #[.func (.func 19) #[] #[], .func (.func 20) #[] #[], .func (.func 21) #[] #[]] 31) := ⟨_, rfl⟩
  have B0 : Blk wa w0.heap.size 31 #[.func (.func 19) #[] #[], .func (.func 20) #[] #[], .func (.func 21) #[] #[]] := by rw [hwa]; exact Blk.new _ _ _
  have hba : Below w0.heap.size w0 wa := by rw [hwa]; go_grown
  rw [← hwa]
  clear hwa
  go_loopw [13] (fun v wr => ∃ k : Nat, k ≤ 3 ∧ v = .int .i64 k ∧ Below wa.heap.size wa wr) (fun v _ => 3 - (intOf v).toNat)
  case atStart => exact ⟨0, by omega, rfl, Below.refl _ _⟩
  case round =>
    obtain ⟨k, hk, rfl, hb⟩ := hrel
    obtain ⟨q1, q2, q3⟩ := (B0.ext hb).facts
    have hbw := ext_trans hba hb
    by_cases hlt : k < 3
    case neg =>
      obtain rfl : k = 3 := by omega
      go_wp2_with fail
      go_ret
      exact ⟨rfl, hbw⟩
    case pos =>
      have hk3 : k = 0 ∨ k = 1 ∨ k = 2 := by omega
      rcases hk3 with rfl | rfl | rfl
      · clear hk hlt
        go_wp2_with fail
        refine (union_any A0 A1 c0 c1 a b _ (H0.out.ext hbw) (H1.out.ext hbw)).mono ?_
        rintro e w1 ⟨ea, x, Ax, cx, HSa, rfl, hIx, hb1⟩
        have hbw1 := ext_trans hbw hb1
        go_wp2_with fail
        refine (refSets_any 0 (by omega) A0 A1 c0 c1 a b _ (H0.out.ext hbw1) (H1.out.ext hbw1)).mono ?_
        rintro e w2 ⟨eb, y, Ay, cy, HSb, rfl, hIy, hb2⟩
        obtain ⟨rfl, rfl⟩ := HSa.out.same HSb.out
        have hIx := hIx.ext hb2
        go_wp2_with fail
        refine (equalIvlsSame _ _ _ _ x _ hIx hIy).mono ?_
        rintro e w3 ⟨rfl, hb3⟩
        go_wp2_with fail
        go_roundw
        case rel => exact ⟨1, by omega, by go_num, ext_trans (ext_trans (ext_trans hb hb1) hb2) hb3⟩
        case measure => simp [intOf]
      · clear hk hlt
        go_wp2_with fail
        refine (meetS_any A0 A1 c0 c1 a b _ (H0.out.ext hbw) (H1.out.ext hbw)).mono ?_
        rintro e w1 ⟨ea, x, Ax, cx, HSa, rfl, hIx, hb1⟩
        have hbw1 := ext_trans hbw hb1
        go_wp2_with fail
        refine (refSets_any 1 (by omega) A0 A1 c0 c1 a b _ (H0.out.ext hbw1) (H1.out.ext hbw1)).mono ?_
        rintro e w2 ⟨eb, y, Ay, cy, HSb, rfl, hIy, hb2⟩
        obtain ⟨rfl, rfl⟩ := HSa.out.same HSb.out
        have hIx := hIx.ext hb2
        go_wp2_with fail
        refine (equalIvlsSame _ _ _ _ x _ hIx hIy).mono ?_
        rintro e w3 ⟨rfl, hb3⟩
        go_wp2_with fail
        go_roundw
        case rel => exact ⟨2, by omega, by go_num, ext_trans (ext_trans (ext_trans hb hb1) hb2) hb3⟩
        case measure => simp [intOf]
      · clear hk hlt
        go_wp2_with fail
        refine (minus_any A0 A1 c0 c1 a b _ (H0.out.ext hbw) (H1.out.ext hbw)).mono ?_
        rintro e w1 ⟨ea, x, Ax, cx, HSa, rfl, hIx, hb1⟩
        have hbw1 := ext_trans hbw hb1
        go_wp2_with fail
        refine (refSets_any 2 (by omega) A0 A1 c0 c1 a b _ (H0.out.ext hbw1) (H1.out.ext hbw1)).mono ?_
        rintro e w2 ⟨eb, y, Ay, cy, HSb, rfl, hIy, hb2⟩
        obtain ⟨rfl, rfl⟩ := HSa.out.same HSb.out
        have hIx := hIx.ext hb2
        go_wp2_with fail
        refine (equalIvlsSame _ _ _ _ x _ hIx hIy).mono ?_
        rintro e w3 ⟨rfl, hb3⟩
        go_wp2_with fail
        go_roundw
        case rel => exact ⟨3, by omega, by go_num, ext_trans (ext_trans (ext_trans hb hb1) hb2) hb3⟩
        case measure => simp [intOf]
end Go.Proofs.Ytcfachfldanddaa
