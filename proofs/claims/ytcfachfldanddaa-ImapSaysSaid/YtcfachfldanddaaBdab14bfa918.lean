/- Several texts in one: RefPut, RefOnly. -/
import Derived.Test.YtcfachfldanddaaBd112dc8e1cf
import Derived.Test.YtcfachfldanddaaBd476b4ef948
import Derived.Test.YtcfachfldanddaaBdecb1d1e777
import Derived.Test.YtcfachfldanddaaBd326a6a511a
/- The walk of the document's Put (printed by genrefmap2.py). -/
namespace Go.Proofs.Ytcfachfldanddaa
open Go.RowKit Go.Shelf

theorem putM_turns {m : List PieceD} {p : PieceD} {D : List Int} (h : D.Pairwise (· < ·)) (hD : ∀ x, x ∈ endsP m ++ [p.f, p.t] → x ∈ D) : TurnsAt D none (putM m p) := by
  have h1 : TurnsAt D none (atM m) := atM_turns h fun x hx => ⟨hD _ (List.mem_append_left _ (mem_endsP.2 ⟨x, hx, .inl rfl⟩)), hD _ (List.mem_append_left _ (mem_endsP.2 ⟨x, hx, .inr rfl⟩))⟩
  have h2 : TurnsAt D none (atM (oneL p)) := atM_turns h fun x hx => by
    unfold oneL at hx
    split at hx
    · simp at hx
    · obtain rfl : x = p := by simpa using hx
      exact ⟨hD _ (List.mem_append_right _ (by simp)), hD _ (List.mem_append_right _ (by simp))⟩
  have h3 := h2.map2 elseO rfl h1
  have e : (fun t => elseO (atM (oneL p) t) (atM m t)) = putM m p := funext fun t => oneL_put p m t
  rwa [e] at h3
set_option maxRecDepth 100000 in
set_option maxHeartbeats 8000000 in
theorem refPut_any (A : Option Addr) (c : Nat) (m : List PieceD) (p : PieceD) (w : World) (hA : PiecesAt w A c m) : Calls Try.prog 42 #[.slice A m.length c, pieceV p] w (MapOut (PutSay m p) w) := by
  have HA := Lib.hid hA
  have hmf : ∀ (fn : Fn) (first cap : Array Value) (w : World), (Instr.makeFunc fn first cap).run Try.prog w = .ok (.func fn first cap) w := fun _ _ _ _ => rfl
  have hent := enters_refPut1
  unfold Enters at hent
  obtain ⟨i0, hi, hz0, hz1, hz2⟩ := info_int2
  have m1 := hA.len
  clear hA
  go_enter Try.func42, Try.ntmps42
  go_wp2_with fail
  obtain ⟨w0, hw0⟩ : ∃ w0, w0 = ((w.alloc (Obj.cells #[.slice A m.length c] 40)).alloc (Obj.cells #[.int .i64 p.f, .int .i64 p.t, .int .i64 p.v] 42)) := ⟨_, rfl⟩
  have hb0 : Below w.heap.size w w0 := by rw [hw0]; go_grown
  have Ba : Blk w0 w.heap.size 40 #[.slice A m.length c] := by rw [hw0]; exact (Blk.new _ _ _).alloc _
  have Bp : Blk w0 (w.heap.size + 1) 42 #[.int .i64 p.f, .int .i64 p.t, .int .i64 p.v] := by rw [hw0]; exact Blk.new_ (by simp)
  rw [← hw0]
  clear hw0
  refine (refMap_any A c m w0 (HA.out.ext hb0)).mono ?_
  by_cases h0 : mapErr m = 0
  case neg =>
    have hd : (mapErr m != 0) = true := by simpa using h0
    have HS : Hid (PutSay m p (mapErr m) []) := Lib.hid (by unfold PutSay; rw [if_neg h0]; exact ⟨rfl, rfl⟩)
    clear h0
    obtain ⟨er, her⟩ : ∃ er, mapErr m = er := ⟨_, rfl⟩
    rw [her] at hd HS ⊢
    clear her
    rintro e w1 ⟨rfl, hb1⟩
    go_wp2_with fail
    refine bodyPost_ret (v := .tuple #[.slice none 0 0, .int .i64 er]) (by simp [results, Try.results42]) rfl ?_
    exact ⟨er, [], none, 0, HS, rfl, PiecesAt.nil, ext_trans hb0 hb1⟩
  case pos =>
  have HEA := Lib.hid h0
  rw [h0]
  clear h0
  rintro e w1 ⟨rfl, hb1⟩
  have Ba := Ba.ext hb1
  have Bp := Bp.ext hb1
  have hb0 := ext_trans hb0 hb1
  clear hb1
  obtain ⟨c1, c2, c3⟩ := Bp.facts
  by_cases hpn : nearB p.f = true ∧ nearB p.t = true ∧ nearB p.v = true
  case neg =>
    have HS : Hid (PutSay m p 5 []) := Lib.hid (by unfold PutSay; rw [if_pos HEA.out, if_neg hpn]; exact ⟨rfl, rfl⟩)
    have h3 : nearB p.f = false ∨ (nearB p.f = true ∧ nearB p.t = false) ∨ (nearB p.f = true ∧ nearB p.t = true ∧ nearB p.v = false) := by
      cases h1 : nearB p.f
      · exact .inl rfl
      · cases h2 : nearB p.t
        · exact .inr (.inl ⟨rfl, rfl⟩)
        · refine .inr (.inr ⟨rfl, rfl, ?_⟩)
          cases h3 : nearB p.v
          · rfl
          · exact absurd ⟨h1, h2, h3⟩ hpn
    clear hpn
    rcases h3 with h1 | ⟨h1, h2⟩ | ⟨h1, h2, h3⟩
    all_goals
      go_wp2_with (first | (go_at_call 72; refine (near_is (by assumption) _).mono ?_; rintro e w' ⟨rfl, rfl⟩))
      refine bodyPost_ret (v := .tuple #[.slice none 0 0, .int .i64 5]) (by simp [results, Try.results42]) rfl ?_
      exact ⟨5, [], none, 0, HS, rfl, PiecesAt.nil, hb0⟩
  case pos =>
  have HPN := Lib.hid hpn
  obtain ⟨n1, n2, n3⟩ := hpn
  go_wp2_with (first | (go_at_call 72; refine (near_is (by assumption) _).mono ?_; rintro e w' ⟨rfl, rfl⟩))
  clear c1 c2 c3 n1 n2 n3
  obtain ⟨w2, hw2⟩ : ∃ x, x = w1 := ⟨_, rfl⟩
  rw [← hw2] at Ba Bp hb0 ⊢
  clear hw2
  obtain ⟨S, hSS⟩ : ∃ S : World → Prop, Hid (S = fun w' => w'.cell? ⟨w.heap.size, 0, none⟩ = some (.slice A m.length c) ∧ w'.cell? ⟨w.heap.size + 1, 0, none⟩ = some (.int .i64 p.f) ∧ w'.cell? ⟨w.heap.size + 1, 1, none⟩ = some (.int .i64 p.t) ∧ w'.cell? ⟨w.heap.size + 1, 2, none⟩ = some (.int .i64 p.v)) := ⟨_, Lib.hid rfl⟩
  have Ba := Ba.drew; have Bp := Bp.drew
  have hS0 : S w2.drew := by rw [hSS.out]; exact ⟨Ba.cell 0, Bp.cell 0, Bp.cell 1, Bp.cell 2⟩
  have hb2 := below_drew hb0
  clear hb0
  have HBL : Hid (w.heap.size < w2.drew.heap.size ∧ w.heap.size + 1 < w2.drew.heap.size) := Lib.hid ⟨Ba.lt, Bp.lt⟩
  have hzw2 := hb2.size
  have HLA := Lib.hid (mapErr_zero HEA.out)
  refine WpN.begin (S := S) 14 (by kernel_rfl) ?_
  refine WpN.takeD (i := 0) (v := ?_) rfl rfl (by kernel_rfl) (fun _ _ _ h => h) (Or.inl ⟨by rfl, ?_⟩) (by assumption) ?_
  rotate_left
  · intro w hSw; rw [hSS.out] at hSw; obtain ⟨sw0, sw1, sw2, sw3⟩ := hSw; go_simp; try with_reducible rfl
  try simp only [Act.put, List.setIfInBounds_toArray, List.set_cons_zero, List.set_cons_succ]
  refine WpN.takeD (i := 2) (v := ?_) rfl rfl (by kernel_rfl) (fun _ _ _ h => h) (Or.inl ⟨by rfl, ?_⟩) (by assumption) ?_
  rotate_left
  · intro w hSw; rw [hSS.out] at hSw; obtain ⟨sw0, sw1, sw2, sw3⟩ := hSw; go_simp; try with_reducible rfl
  try simp only [Act.put, List.setIfInBounds_toArray, List.set_cons_zero, List.set_cons_succ]
  refine WpN.takeD (i := 3) (v := ?_) rfl rfl (by kernel_rfl) (fun _ _ _ h => h) (Or.inl ⟨by rfl, ?_⟩) (by assumption) ?_
  rotate_left
  · intro w hSw; rw [hSS.out] at hSw; obtain ⟨sw0, sw1, sw2, sw3⟩ := hSw; go_simp; try with_reducible rfl
  try simp only [Act.put, List.setIfInBounds_toArray, List.set_cons_zero, List.set_cons_succ]
  refine WpN.takeD (i := 4) (v := ?_) rfl rfl (by kernel_rfl) (fun _ _ _ h => h) (Or.inl ⟨by rfl, ?_⟩) (by assumption) ?_
  rotate_left
  · intro w hSw; rw [hSS.out] at hSw; obtain ⟨sw0, sw1, sw2, sw3⟩ := hSw; go_simp; try with_reducible rfl
  try simp only [Act.put, List.setIfInBounds_toArray, List.set_cons_zero, List.set_cons_succ]
  refine WpN.takeD (i := 5) (v := ?_) rfl rfl (by kernel_rfl) (fun _ _ _ h => h) (Or.inl ⟨by rfl, ?_⟩) (by assumption) ?_
  rotate_left
  · intro w hSw; rw [hSS.out] at hSw; obtain ⟨sw0, sw1, sw2, sw3⟩ := hSw; go_simp; try with_reducible rfl
  try simp only [Act.put, List.setIfInBounds_toArray, List.set_cons_zero, List.set_cons_succ]
  refine WpN.takeD (i := 8) (v := ?_) rfl rfl (by kernel_rfl) (fun _ _ _ h => h) (Or.inl ⟨by rfl, ?_⟩) (by assumption) ?_
  rotate_left
  · intro w hSw; rw [hSS.out] at hSw; obtain ⟨sw0, sw1, sw2, sw3⟩ := hSw; go_simp; try with_reducible rfl
  try simp only [Act.put, List.setIfInBounds_toArray, List.set_cons_zero, List.set_cons_succ]
  refine WpN.two (i := 1) (j := 6) rfl rfl (by kernel_rfl) (fun K hK => ?_) (fun K hK => ?_)
  · skip
    have hbc := hb2
    go_wp2_with (first | (refine (refTurns_any A c m _ (HA.out.ext hbc) (by have := HLA.out.1; omega)).mono ?_; rintro e w4 ⟨v4, rfl, O4, hb4⟩))
    have Ba := Ba.ext hb4; have Bp := Bp.ext hb4
    have hS1 : S w4 := by rw [hSS.out]; exact ⟨Ba.cell 0, Bp.cell 0, Bp.cell 1, Bp.cell 2⟩
    have hz4 := hb4.size
    have hb4' := ext_trans hb2 hb4
    refine hK.out _ _ ⟨fun _ => hS1, ?_⟩
    clear hK K hb4 hbc
    refine WpN.one (i := 6) rfl (by kernel_rfl) fun K hK => ?_
    go_wp2_with fail
    have O5 : Own intEnc 1 (w4.alloc (Obj.cells #[.int .i64 p.f, .int .i64 p.t] 3)) w4.heap.size 3 (.slice (some ⟨w4.heap.size, 0, none⟩) 2 2) [p.f, p.t] := Own.lit rfl (Nat.le_refl _) rfl rfl rfl (by decide)
    have hbl := ext_alloc (Below.refl _ w4) (Obj.cells #[.int .i64 p.f, .int .i64 p.t] 3)
    have Ba := Ba.ext hbl; have Bp := Bp.ext hbl
    have hS2 : S (w4.alloc (Obj.cells #[.int .i64 p.f, .int .i64 p.t] 3)) := by rw [hSS.out]; exact ⟨Ba.cell 0, Bp.cell 0, Bp.cell 1, Bp.cell 2⟩
    have O4 := O4.ext hbl
    have hb5' := ext_trans hb4' hbl
    have hz5 : w2.drew.heap.size ≤ (w4.alloc (Obj.cells #[.int .i64 p.f, .int .i64 p.t] 3)).heap.size := Nat.le_trans hz4 hbl.size
    have hbb : w2.drew.heap.size ≤ w2.drew.heap.size := Nat.le_refl _
    refine hK.out _ _ ⟨fun _ => hS2, ?_⟩
    clear hK K hbl hb4'
    refine WpN.one (i := 7) rfl (by kernel_rfl) fun K hK => ?_
    refine wp_append_two (enc := intEnc) (.tmp 29) (.tmp 34) 81 rfl w2.drew.heap.size w4.heap.size 3 i0 _ 1 8 Try.underlying81 hi hz0 hz1 hz2 rfl (by decide) v4 _ (endsP m) [p.f, p.t] rfl rfl O4 O5 (ints_one _) (by rw [endsP_len]; have := HLA.out.1; simp; omega) (by decide) hz5 ?_
    intro v6 w6 O6 hb6
    obtain ⟨qs, hqs⟩ : ∃ q, q = endsP m ++ [p.f, p.t] := ⟨_, rfl⟩
    rw [← hqs] at O6
    have HQS := Lib.hid hqs
    clear hqs
    have hba : w.heap.size < w2.drew.heap.size ∧ w.heap.size + 1 < w2.drew.heap.size := HBL.out
    have Ba := Ba.below hb6 (by omega); have Bp := Bp.below hb6 (by omega)
    have hS3 : S w6 := by rw [hSS.out]; exact ⟨Ba.cell 0, Bp.cell 0, Bp.cell 1, Bp.cell 2⟩
    have hb6' : Below w.heap.size w w6 := hb5'.trans (hb6.mono (by omega))
    obtain ⟨A6, c6, rfl, hI6⟩ := own_ints O6 (fun n hn => by
      rw [HQS.out] at hn
      rcases List.mem_append.1 hn with hn | hn
      · exact endsP_i64 HA.out n hn
      · simp only [List.mem_cons, List.not_mem_nil, or_false] at hn
        rcases hn with rfl | rfl
        · exact near_i64 HPN.out.1
        · exact near_i64 HPN.out.2.1)
    have hT := told_gen 88 #[.pointer (some ⟨w.heap.size + 1, 0, none⟩), .pointer (some ⟨w.heap.size, 0, none⟩)] (putM m p) hent A6 c6 qs w6 hI6
      (by rw [HQS.out, List.length_append, endsP_len]; have := HLA.out.1; simp; omega)
      (fun D h1 h2 => putM_turns h1 (fun x hx => (h2 x).2 (by rw [HQS.out]; exact hx)))
      (fun t v hv => near_i64 (put_vals HEA.out HPN.out.2.2 hv))
      (fun _ _ W => Below w6.heap.size w6 W) (fun _ _ h => h) (fun _ _ _ _ h h' => h.trans h')
      (fun D i W x _ _ hb _ _ _ => (refPut1_any A c (w.heap.size + 1) w.heap.size m p x W (Bp.ext hb) ((Ba.ext hb).cell 0) ((HA.out.ext hb6').ext hb)).mono fun e w' ⟨v, h1, h2, h3⟩ => ⟨v, h1, h2, ext_trans hb h3, Late.of_below h3⟩)
    refine hK.out _ _ ⟨fun _ => hS3, ?_⟩
    clear hK K hb5' hb6 O4 O5 O6
    refine WpN.one (i := 9) rfl (by kernel_rfl) fun K hK => ?_
    go_wp2_with (first | (refine hT.mono ?_; rintro e w7 ⟨A7, c7, out, D, i, HO, rfl, hI7, _⟩))
    have hb7 := HO.out.2.1
    have Ba := Ba.ext hb7; have Bp := Bp.ext hb7
    have hS4 : S w7 := by rw [hSS.out]; exact ⟨Ba.cell 0, Bp.cell 0, Bp.cell 1, Bp.cell 2⟩
    have hb7' := ext_trans hb6' hb7
    refine hK.out _ _ ⟨fun _ => hS4, ?_⟩
    clear hK K hT hb7
    have hs7 := fun w => refSmall_any A7 out.length c7 w (Nat.le_trans hI7.lc hI7.cm)
    have HT : Hid (Tells (putM m p) (if 200 < out.length then 2 else 0) (if 200 < out.length then [] else out)) := Lib.hid (EachSay.tells ⟨out, HO.out.1.1, HO.out.1.2, rfl, rfl⟩ (fun t v hv => put_vals HEA.out HPN.out.2.2 hv))
    by_cases hl : 200 < out.length
    · rw [if_pos hl, if_pos hl] at HT
      simp only [if_pos hl] at hs7
      clear hl
      refine WpN.one (i := 10) rfl (by kernel_rfl) fun K hK => ?_
      go_wp2_with (first | (refine (hs7 _).mono ?_; rintro e w8 ⟨rfl, rfl⟩))
      refine hK.out _ _ ⟨fun _ => hS4, ?_⟩
      clear hK K
      refine WpN.takeD (i := 11) (v := ?_) rfl rfl (by kernel_rfl) (fun _ _ _ h => h) (Or.inl ⟨by rfl, ?_⟩) (by assumption) ?_
      rotate_left
      · intro w hSw; rw [hSS.out] at hSw; obtain ⟨sw0, sw1, sw2, sw3⟩ := hSw; go_simp; try with_reducible rfl
      try simp only [Act.put, List.setIfInBounds_toArray, List.set_cons_zero, List.set_cons_succ]
      refine WpN.takeD (i := 12) (v := ?_) rfl rfl (by kernel_rfl) (fun _ _ _ h => h) (Or.inl ⟨by rfl, ?_⟩) (by assumption) ?_
      rotate_left
      · intro w hSw; rw [hSS.out] at hSw; obtain ⟨sw0, sw1, sw2, sw3⟩ := hSw; go_simp; try with_reducible rfl
      try simp only [Act.put, List.setIfInBounds_toArray, List.set_cons_zero, List.set_cons_succ]
      refine WpN.takeD (i := 13) (v := ?_) rfl rfl (by kernel_rfl) (fun _ _ _ h => h) (Or.inl ⟨by rfl, ?_⟩) (by assumption) ?_
      rotate_left
      · intro w hSw; rw [hSS.out] at hSw; obtain ⟨sw0, sw1, sw2, sw3⟩ := hSw; go_simp; try with_reducible rfl
      try simp only [Act.put, List.setIfInBounds_toArray, List.set_cons_zero, List.set_cons_succ]
      refine WpN.one (i := 14) rfl (by kernel_rfl) fun K hK => ?_
      go_wp2_with fail
      refine hK.out _ _ ⟨fun h => absurd h (by decide), ?_⟩
      refine WpN.done (by kernel_rfl) ?_ _
      clear hK K hSS hS0 hS3 hS4
      go_wp2_with fail
      refine bodyPost_ret (v := .tuple #[.slice none 0 0, .int .i64 2]) (by simp [results, Try.results42]) rfl ?_
      exact ⟨2, [], none, 0, Lib.hid (by unfold PutSay; rw [if_pos HEA.out, if_pos HPN.out]; exact HT.out), rfl, PiecesAt.nil, hb7'⟩
    · rw [if_neg hl, if_neg hl] at HT
      simp only [if_neg hl] at hs7
      clear hl
      refine WpN.one (i := 10) rfl (by kernel_rfl) fun K hK => ?_
      go_wp2_with (first | (refine (hs7 _).mono ?_; rintro e w8 ⟨rfl, rfl⟩))
      refine hK.out _ _ ⟨fun _ => hS4, ?_⟩
      clear hK K
      refine WpN.takeD (i := 11) (v := ?_) rfl rfl (by kernel_rfl) (fun _ _ _ h => h) (Or.inl ⟨by rfl, ?_⟩) (by assumption) ?_
      rotate_left
      · intro w hSw; rw [hSS.out] at hSw; obtain ⟨sw0, sw1, sw2, sw3⟩ := hSw; go_simp; try with_reducible rfl
      try simp only [Act.put, List.setIfInBounds_toArray, List.set_cons_zero, List.set_cons_succ]
      refine WpN.takeD (i := 12) (v := ?_) rfl rfl (by kernel_rfl) (fun _ _ _ h => h) (Or.inl ⟨by rfl, ?_⟩) (by assumption) ?_
      rotate_left
      · intro w hSw; rw [hSS.out] at hSw; obtain ⟨sw0, sw1, sw2, sw3⟩ := hSw; go_simp; try with_reducible rfl
      try simp only [Act.put, List.setIfInBounds_toArray, List.set_cons_zero, List.set_cons_succ]
      refine WpN.takeD (i := 13) (v := ?_) rfl rfl (by kernel_rfl) (fun _ _ _ h => h) (Or.inl ⟨by rfl, ?_⟩) (by assumption) ?_
      rotate_left
      · intro w hSw; rw [hSS.out] at hSw; obtain ⟨sw0, sw1, sw2, sw3⟩ := hSw; go_simp; try with_reducible rfl
      try simp only [Act.put, List.setIfInBounds_toArray, List.set_cons_zero, List.set_cons_succ]
      refine WpN.one (i := 14) rfl (by kernel_rfl) fun K hK => ?_
      go_wp2_with fail
      refine hK.out _ _ ⟨fun h => absurd h (by decide), ?_⟩
      refine WpN.done (by kernel_rfl) ?_ _
      clear hK K hSS hS0 hS3 hS4
      go_wp2_with fail
      refine bodyPost_ret (v := .tuple #[.slice A7 out.length c7, .int .i64 0]) (by simp [results, Try.results42]) rfl ?_
      exact ⟨0, out, A7, c7, Lib.hid (by unfold PutSay; rw [if_pos HEA.out, if_pos HPN.out]; exact HT.out), rfl, hI7, hb7'⟩
  · skip
    go_wp2_with fail
    have O5 : Own intEnc 1 (w2.drew.alloc (Obj.cells #[.int .i64 p.f, .int .i64 p.t] 3)) w2.drew.heap.size 3 (.slice (some ⟨w2.drew.heap.size, 0, none⟩) 2 2) [p.f, p.t] := Own.lit rfl (Nat.le_refl _) rfl rfl rfl (by decide)
    have hbl := ext_alloc (Below.refl _ w2.drew) (Obj.cells #[.int .i64 p.f, .int .i64 p.t] 3)
    have Ba := Ba.ext hbl; have Bp := Bp.ext hbl
    have hS2 : S (w2.drew.alloc (Obj.cells #[.int .i64 p.f, .int .i64 p.t] 3)) := by rw [hSS.out]; exact ⟨Ba.cell 0, Bp.cell 0, Bp.cell 1, Bp.cell 2⟩
    have hbc := ext_trans hb2 hbl
    have hbb : w2.drew.heap.size ≤ (w2.drew.alloc (Obj.cells #[.int .i64 p.f, .int .i64 p.t] 3)).heap.size := hbl.size
    refine hK.out _ _ ⟨fun _ => hS2, ?_⟩
    clear hK K hbl
    refine WpN.one (i := 1) rfl (by kernel_rfl) fun K hK => ?_
    go_wp2_with (first | (refine (refTurns_any A c m _ (HA.out.ext hbc) (by have := HLA.out.1; omega)).mono ?_; rintro e w4 ⟨v4, rfl, O4, hb4⟩))
    have Ba := Ba.ext hb4; have Bp := Bp.ext hb4
    have hS1 : S w4 := by rw [hSS.out]; exact ⟨Ba.cell 0, Bp.cell 0, Bp.cell 1, Bp.cell 2⟩
    have hz4 := hb4.size
    have O5 := O5.ext hb4
    have hb5' := ext_trans hbc hb4
    have hz5 := hz4
    refine hK.out _ _ ⟨fun _ => hS1, ?_⟩
    clear hK K hb4 hbc
    refine WpN.one (i := 7) rfl (by kernel_rfl) fun K hK => ?_
    refine wp_append_two (enc := intEnc) (.tmp 29) (.tmp 34) 81 rfl (w2.drew.alloc (Obj.cells #[.int .i64 p.f, .int .i64 p.t] 3)).heap.size w2.drew.heap.size 3 i0 _ 1 8 Try.underlying81 hi hz0 hz1 hz2 rfl (by decide) v4 _ (endsP m) [p.f, p.t] rfl rfl O4 O5 (ints_one _) (by rw [endsP_len]; have := HLA.out.1; simp; omega) (by decide) hz5 ?_
    intro v6 w6 O6 hb6
    obtain ⟨qs, hqs⟩ : ∃ q, q = endsP m ++ [p.f, p.t] := ⟨_, rfl⟩
    rw [← hqs] at O6
    have HQS := Lib.hid hqs
    clear hqs
    have hba : w.heap.size < w2.drew.heap.size ∧ w.heap.size + 1 < w2.drew.heap.size := HBL.out
    have Ba := Ba.below hb6 (by omega); have Bp := Bp.below hb6 (by omega)
    have hS3 : S w6 := by rw [hSS.out]; exact ⟨Ba.cell 0, Bp.cell 0, Bp.cell 1, Bp.cell 2⟩
    have hb6' : Below w.heap.size w w6 := hb5'.trans (hb6.mono (by omega))
    obtain ⟨A6, c6, rfl, hI6⟩ := own_ints O6 (fun n hn => by
      rw [HQS.out] at hn
      rcases List.mem_append.1 hn with hn | hn
      · exact endsP_i64 HA.out n hn
      · simp only [List.mem_cons, List.not_mem_nil, or_false] at hn
        rcases hn with rfl | rfl
        · exact near_i64 HPN.out.1
        · exact near_i64 HPN.out.2.1)
    have hT := told_gen 88 #[.pointer (some ⟨w.heap.size + 1, 0, none⟩), .pointer (some ⟨w.heap.size, 0, none⟩)] (putM m p) hent A6 c6 qs w6 hI6
      (by rw [HQS.out, List.length_append, endsP_len]; have := HLA.out.1; simp; omega)
      (fun D h1 h2 => putM_turns h1 (fun x hx => (h2 x).2 (by rw [HQS.out]; exact hx)))
      (fun t v hv => near_i64 (put_vals HEA.out HPN.out.2.2 hv))
      (fun _ _ W => Below w6.heap.size w6 W) (fun _ _ h => h) (fun _ _ _ _ h h' => h.trans h')
      (fun D i W x _ _ hb _ _ _ => (refPut1_any A c (w.heap.size + 1) w.heap.size m p x W (Bp.ext hb) ((Ba.ext hb).cell 0) ((HA.out.ext hb6').ext hb)).mono fun e w' ⟨v, h1, h2, h3⟩ => ⟨v, h1, h2, ext_trans hb h3, Late.of_below h3⟩)
    refine hK.out _ _ ⟨fun _ => hS3, ?_⟩
    clear hK K hb5' hb6 O4 O5 O6
    refine WpN.one (i := 9) rfl (by kernel_rfl) fun K hK => ?_
    go_wp2_with (first | (refine hT.mono ?_; rintro e w7 ⟨A7, c7, out, D, i, HO, rfl, hI7, _⟩))
    have hb7 := HO.out.2.1
    have Ba := Ba.ext hb7; have Bp := Bp.ext hb7
    have hS4 : S w7 := by rw [hSS.out]; exact ⟨Ba.cell 0, Bp.cell 0, Bp.cell 1, Bp.cell 2⟩
    have hb7' := ext_trans hb6' hb7
    refine hK.out _ _ ⟨fun _ => hS4, ?_⟩
    clear hK K hT hb7
    have hs7 := fun w => refSmall_any A7 out.length c7 w (Nat.le_trans hI7.lc hI7.cm)
    have HT : Hid (Tells (putM m p) (if 200 < out.length then 2 else 0) (if 200 < out.length then [] else out)) := Lib.hid (EachSay.tells ⟨out, HO.out.1.1, HO.out.1.2, rfl, rfl⟩ (fun t v hv => put_vals HEA.out HPN.out.2.2 hv))
    by_cases hl : 200 < out.length
    · rw [if_pos hl, if_pos hl] at HT
      simp only [if_pos hl] at hs7
      clear hl
      refine WpN.one (i := 10) rfl (by kernel_rfl) fun K hK => ?_
      go_wp2_with (first | (refine (hs7 _).mono ?_; rintro e w8 ⟨rfl, rfl⟩))
      refine hK.out _ _ ⟨fun _ => hS4, ?_⟩
      clear hK K
      refine WpN.takeD (i := 11) (v := ?_) rfl rfl (by kernel_rfl) (fun _ _ _ h => h) (Or.inl ⟨by rfl, ?_⟩) (by assumption) ?_
      rotate_left
      · intro w hSw; rw [hSS.out] at hSw; obtain ⟨sw0, sw1, sw2, sw3⟩ := hSw; go_simp; try with_reducible rfl
      try simp only [Act.put, List.setIfInBounds_toArray, List.set_cons_zero, List.set_cons_succ]
      refine WpN.takeD (i := 12) (v := ?_) rfl rfl (by kernel_rfl) (fun _ _ _ h => h) (Or.inl ⟨by rfl, ?_⟩) (by assumption) ?_
      rotate_left
      · intro w hSw; rw [hSS.out] at hSw; obtain ⟨sw0, sw1, sw2, sw3⟩ := hSw; go_simp; try with_reducible rfl
      try simp only [Act.put, List.setIfInBounds_toArray, List.set_cons_zero, List.set_cons_succ]
      refine WpN.takeD (i := 13) (v := ?_) rfl rfl (by kernel_rfl) (fun _ _ _ h => h) (Or.inl ⟨by rfl, ?_⟩) (by assumption) ?_
      rotate_left
      · intro w hSw; rw [hSS.out] at hSw; obtain ⟨sw0, sw1, sw2, sw3⟩ := hSw; go_simp; try with_reducible rfl
      try simp only [Act.put, List.setIfInBounds_toArray, List.set_cons_zero, List.set_cons_succ]
      refine WpN.one (i := 14) rfl (by kernel_rfl) fun K hK => ?_
      go_wp2_with fail
      refine hK.out _ _ ⟨fun h => absurd h (by decide), ?_⟩
      refine WpN.done (by kernel_rfl) ?_ _
      clear hK K hSS hS0 hS3 hS4
      go_wp2_with fail
      refine bodyPost_ret (v := .tuple #[.slice none 0 0, .int .i64 2]) (by simp [results, Try.results42]) rfl ?_
      exact ⟨2, [], none, 0, Lib.hid (by unfold PutSay; rw [if_pos HEA.out, if_pos HPN.out]; exact HT.out), rfl, PiecesAt.nil, hb7'⟩
    · rw [if_neg hl, if_neg hl] at HT
      simp only [if_neg hl] at hs7
      clear hl
      refine WpN.one (i := 10) rfl (by kernel_rfl) fun K hK => ?_
      go_wp2_with (first | (refine (hs7 _).mono ?_; rintro e w8 ⟨rfl, rfl⟩))
      refine hK.out _ _ ⟨fun _ => hS4, ?_⟩
      clear hK K
      refine WpN.takeD (i := 11) (v := ?_) rfl rfl (by kernel_rfl) (fun _ _ _ h => h) (Or.inl ⟨by rfl, ?_⟩) (by assumption) ?_
      rotate_left
      · intro w hSw; rw [hSS.out] at hSw; obtain ⟨sw0, sw1, sw2, sw3⟩ := hSw; go_simp; try with_reducible rfl
      try simp only [Act.put, List.setIfInBounds_toArray, List.set_cons_zero, List.set_cons_succ]
      refine WpN.takeD (i := 12) (v := ?_) rfl rfl (by kernel_rfl) (fun _ _ _ h => h) (Or.inl ⟨by rfl, ?_⟩) (by assumption) ?_
      rotate_left
      · intro w hSw; rw [hSS.out] at hSw; obtain ⟨sw0, sw1, sw2, sw3⟩ := hSw; go_simp; try with_reducible rfl
      try simp only [Act.put, List.setIfInBounds_toArray, List.set_cons_zero, List.set_cons_succ]
      refine WpN.takeD (i := 13) (v := ?_) rfl rfl (by kernel_rfl) (fun _ _ _ h => h) (Or.inl ⟨by rfl, ?_⟩) (by assumption) ?_
      rotate_left
      · intro w hSw; rw [hSS.out] at hSw; obtain ⟨sw0, sw1, sw2, sw3⟩ := hSw; go_simp; try with_reducible rfl
      try simp only [Act.put, List.setIfInBounds_toArray, List.set_cons_zero, List.set_cons_succ]
      refine WpN.one (i := 14) rfl (by kernel_rfl) fun K hK => ?_
      go_wp2_with fail
      refine hK.out _ _ ⟨fun h => absurd h (by decide), ?_⟩
      refine WpN.done (by kernel_rfl) ?_ _
      clear hK K hSS hS0 hS3 hS4
      go_wp2_with fail
      refine bodyPost_ret (v := .tuple #[.slice A7 out.length c7, .int .i64 0]) (by simp [results, Try.results42]) rfl ?_
      exact ⟨0, out, A7, c7, Lib.hid (by unfold PutSay; rw [if_pos HEA.out, if_pos HPN.out]; exact HT.out), rfl, hI7, hb7'⟩
end Go.Proofs.Ytcfachfldanddaa
/- The walk of the document's Only (printed by genrefmap2.py). -/
namespace Go.Proofs.Ytcfachfldanddaa
open Go.RowKit Go.Shelf

set_option maxRecDepth 100000 in
set_option maxHeartbeats 8000000 in
theorem refOnly_any (A B : Option Addr) (c d : Nat) (m : List PieceD) (l : List IvlD) (yes : Bool) (w : World) (hA : PiecesAt w A c m) (hB : IvlsAt w B d l) :
    Calls Try.prog 44 #[.slice A m.length c, .slice B l.length d, .bool yes] w (MapOut (OnlySay m l yes) w) := by
  have HA := Lib.hid hA; have HB := Lib.hid hB
  have hmf : ∀ (fn : Fn) (first cap : Array Value) (w : World), (Instr.makeFunc fn first cap).run Try.prog w = .ok (.func fn first cap) w := fun _ _ _ _ => rfl
  have hent := enters_refOnly1
  unfold Enters at hent
  obtain ⟨i0, hi, hz0, hz1, hz2⟩ := info_int2
  have m1 := hA.len
  have m2 := hB.len
  clear hA hB
  go_enter Try.func44, Try.ntmps44
  go_wp2_with fail
  obtain ⟨w0, hw0⟩ : ∃ w0, w0 = (((w.alloc (Obj.cells #[.slice A m.length c] 40)).alloc (Obj.cells #[.slice B l.length d] 22)).alloc (Obj.cells #[.bool yes] 4)) := ⟨_, rfl⟩
  have hb0 : Below w.heap.size w w0 := by rw [hw0]; go_grown
  have Ba : Blk w0 w.heap.size 40 #[.slice A m.length c] := by rw [hw0]; exact ((Blk.new _ _ _).alloc _).alloc _
  have Bb : Blk w0 (w.heap.size + 1) 22 #[.slice B l.length d] := by rw [hw0]; exact (Blk.new_ (by simp)).alloc _
  have Bh : Blk w0 (w.heap.size + 1 + 1) 4 #[.bool yes] := by rw [hw0]; exact Blk.new_ (by simp)
  rw [← hw0]
  clear hw0
  refine (refMap_any A c m w0 (HA.out.ext hb0)).mono ?_
  by_cases h0 : mapErr m = 0
  case neg =>
    have hd : (mapErr m != 0) = true := by simpa using h0
    have HS : Hid (OnlySay m l yes (mapErr m) []) := Lib.hid (by unfold OnlySay; rw [if_neg h0]; exact ⟨rfl, rfl⟩)
    clear h0
    obtain ⟨er, her⟩ : ∃ er, mapErr m = er := ⟨_, rfl⟩
    rw [her] at hd HS ⊢
    clear her
    rintro e w1 ⟨rfl, hb1⟩
    go_wp2_with fail
    refine bodyPost_ret (v := .tuple #[.slice none 0 0, .int .i64 er]) (by simp [results, Try.results44]) rfl ?_
    exact ⟨er, [], none, 0, HS, rfl, PiecesAt.nil, ext_trans hb0 hb1⟩
  case pos =>
  have HEA := Lib.hid h0
  rw [h0]
  clear h0
  rintro e w1 ⟨rfl, hb1⟩
  have Ba := Ba.ext hb1
  have Bb := Bb.ext hb1
  have Bh := Bh.ext hb1
  have hb0 := ext_trans hb0 hb1
  clear hb1
  obtain ⟨c1, c2, c3⟩ := Bb.facts
  go_wp2_with fail
  refine (refSet_any B d l _ (HB.out.ext hb0)).mono ?_
  by_cases h0 : setErr l = 0
  case neg =>
    have hd : (setErr l != 0) = true := by simpa using h0
    have HS : Hid (OnlySay m l yes (setErr l) []) := Lib.hid (by unfold OnlySay; rw [if_pos HEA.out, if_neg h0]; exact ⟨rfl, rfl⟩)
    clear h0
    obtain ⟨er, her⟩ : ∃ er, setErr l = er := ⟨_, rfl⟩
    rw [her] at hd HS ⊢
    clear her
    rintro e w1 ⟨rfl, hb1⟩
    go_wp2_with fail
    refine bodyPost_ret (v := .tuple #[.slice none 0 0, .int .i64 er]) (by simp [results, Try.results44]) rfl ?_
    exact ⟨er, [], none, 0, HS, rfl, PiecesAt.nil, ext_trans hb0 hb1⟩
  case pos =>
  have HEB := Lib.hid h0
  rw [h0]
  clear h0
  rintro e w1 ⟨rfl, hb1⟩
  have Ba := Ba.ext hb1
  have Bb := Bb.ext hb1
  have Bh := Bh.ext hb1
  have hb0 := ext_trans hb0 hb1
  clear hb1
  clear c1 c2 c3
  go_wp2_with fail
  obtain ⟨w2, hw2⟩ : ∃ x, x = w1 := ⟨_, rfl⟩
  rw [← hw2] at Ba Bb Bh hb0 ⊢
  clear hw2
  obtain ⟨S, hSS⟩ : ∃ S : World → Prop, Hid (S = fun w' => w'.cell? ⟨w.heap.size, 0, none⟩ = some (.slice A m.length c) ∧ w'.cell? ⟨w.heap.size + 1, 0, none⟩ = some (.slice B l.length d)) := ⟨_, Lib.hid rfl⟩
  have Ba := Ba.drew; have Bb := Bb.drew; have Bh := Bh.drew
  have hS0 : S w2.drew := by rw [hSS.out]; exact ⟨Ba.cell 0, Bb.cell 0⟩
  have hb2 := below_drew hb0
  clear hb0
  have HBL : Hid (w.heap.size < w2.drew.heap.size ∧ w.heap.size + 1 < w2.drew.heap.size ∧ w.heap.size + 1 + 1 < w2.drew.heap.size) := Lib.hid ⟨Ba.lt, Bb.lt, Bh.lt⟩
  have hzw2 := hb2.size
  have hla := mapErr_zero HEA.out; have hlb := setErr_zero HEB.out
  have HLA := Lib.hid hla; have HLB := Lib.hid hlb
  clear hla hlb
  refine WpN.begin (S := S) 11 (by kernel_rfl) ?_
  refine WpN.takeD (i := 0) (v := ?_) rfl rfl (by kernel_rfl) (fun _ _ _ h => h) (Or.inl ⟨by rfl, ?_⟩) (by assumption) ?_
  rotate_left
  · intro w hSw; rw [hSS.out] at hSw; obtain ⟨sw0, sw1⟩ := hSw; go_simp; try with_reducible rfl
  try simp only [Act.put, List.setIfInBounds_toArray, List.set_cons_zero, List.set_cons_succ]
  refine WpN.takeD (i := 2) (v := ?_) rfl rfl (by kernel_rfl) (fun _ _ _ h => h) (Or.inl ⟨by rfl, ?_⟩) (by assumption) ?_
  rotate_left
  · intro w hSw; rw [hSS.out] at hSw; obtain ⟨sw0, sw1⟩ := hSw; go_simp; try with_reducible rfl
  try simp only [Act.put, List.setIfInBounds_toArray, List.set_cons_zero, List.set_cons_succ]
  refine WpN.takeD (i := 5) (v := ?_) rfl rfl (by kernel_rfl) (fun _ _ _ h => h) (Or.inl ⟨by rfl, ?_⟩) (by assumption) ?_
  rotate_left
  · intro w hSw; rw [hSS.out] at hSw; obtain ⟨sw0, sw1⟩ := hSw; go_simp; try with_reducible rfl
  try simp only [Act.put, List.setIfInBounds_toArray, List.set_cons_zero, List.set_cons_succ]
  refine WpN.one (i := 1) rfl (by kernel_rfl) fun K hK => ?_
  go_wp2_with (first | (refine (refTurns_any A c m _ (HA.out.ext hb2) (by have := HLA.out.1; omega)).mono ?_; rintro e w4 ⟨v4, rfl, O4, hb4⟩))
  have Ba := Ba.ext hb4; have Bb := Bb.ext hb4; have Bh := Bh.ext hb4
  have hS1 : S w4 := by rw [hSS.out]; exact ⟨Ba.cell 0, Bb.cell 0⟩
  have hz4 := hb4.size
  have hb4' := ext_trans hb2 hb4
  refine hK.out _ _ ⟨fun _ => hS1, ?_⟩
  clear hK K hb4
  refine WpN.one (i := 3) rfl (by kernel_rfl) fun K hK => ?_
  go_wp2_with (first | (refine (ends_any B d l _ (HB.out.ext hb4') (by have := HLB.out.1; omega)).mono ?_; rintro e w5 ⟨v5, rfl, O5, hb5⟩))
  have Ba := Ba.ext hb5; have Bb := Bb.ext hb5; have Bh := Bh.ext hb5
  have hS2 : S w5 := by rw [hSS.out]; exact ⟨Ba.cell 0, Bb.cell 0⟩
  have O4 := O4.ext hb5
  have hz5 := hb5.size
  have hb5' := ext_trans hb4' hb5
  refine hK.out _ _ ⟨fun _ => hS2, ?_⟩
  clear hK K hb5 hb4'
  refine WpN.one (i := 4) rfl (by kernel_rfl) fun K hK => ?_
  refine wp_append_two (enc := intEnc) (.tmp 21) (.tmp 23) 81 rfl w2.drew.heap.size w4.heap.size 3 i0 _ 1 8 Try.underlying81 hi hz0 hz1 hz2 rfl (by decide) v4 v5 (endsP m) (endsI l) rfl rfl O4 O5 (ints_one _) (by rw [endsP_len, endsI_len]; have := HLA.out.1; have := HLB.out.1; omega) (by decide) (by omega) ?_
  intro v6 w6 O6 hb6
  obtain ⟨qs, hqs⟩ : ∃ q, q = endsP m ++ endsI l := ⟨_, rfl⟩
  rw [← hqs] at O6
  have HQS := Lib.hid hqs
  clear hqs
  have hba : w.heap.size < w2.drew.heap.size ∧ w.heap.size + 1 < w2.drew.heap.size ∧ w.heap.size + 1 + 1 < w2.drew.heap.size := HBL.out
  have Ba := Ba.below hb6 hba.1; have Bb := Bb.below hb6 hba.2.1; have Bh := Bh.below hb6 hba.2.2
  have hS3 : S w6 := by rw [hSS.out]; exact ⟨Ba.cell 0, Bb.cell 0⟩
  have hb6' : Below w.heap.size w w6 := hb5'.trans (hb6.mono (by omega))
  obtain ⟨A6, c6, rfl, hI6⟩ := own_ints O6 (fun n hn => by
    rw [HQS.out] at hn
    rcases List.mem_append.1 hn with hn | hn
    · exact endsP_i64 HA.out n hn
    · obtain ⟨x, hx, h⟩ := mem_endsI.1 hn
      have := HLB.out.2.near x hx
      rcases h with rfl | rfl
      · exact near_i64 this.1
      · exact near_i64 this.2)
  have hT := told_gen 90 #[.pointer (some ⟨w.heap.size, 0, none⟩), .pointer (some ⟨w.heap.size + 1, 0, none⟩), .pointer (some ⟨w.heap.size + 1 + 1, 0, none⟩)] (onlyF m l yes) hent A6 c6 qs w6 hI6
    (by rw [HQS.out, List.length_append, endsP_len, endsI_len]; have := HLA.out.1; have := HLB.out.1; omega)
    (fun D h1 h2 => (ends_turns h1 h2 fun _ h => by rw [HQS.out]; exact List.mem_append_right _ h).map2 (fun x y => if x = yes then y else none) (by split <;> rfl) (endsP_turns (l := m) h1 h2 fun _ h => by rw [HQS.out]; exact List.mem_append_left _ h))
    (fun t v hv => near_i64 (only_vals HEA.out t v hv))
    (fun _ _ W => Below w6.heap.size w6 W) (fun _ _ h => h) (fun _ _ _ _ h h' => h.trans h')
    (fun D i W x _ _ hb _ _ _ => (refOnly1_any A B c d w.heap.size (w.heap.size + 1) (w.heap.size + 1 + 1) m l yes x W ((Ba.ext hb).cell 0) ((Bb.ext hb).cell 0) ((Bh.ext hb).cell 0) ((HA.out.ext hb6').ext hb) ((HB.out.ext hb6').ext hb)).mono fun e w' ⟨v, h1, h2, h3⟩ => ⟨v, h1, h2, ext_trans hb h3, Late.of_below h3⟩)
  refine hK.out _ _ ⟨fun _ => hS3, ?_⟩
  clear hK K hb5' hb6 O4 O5 O6
  refine WpN.one (i := 6) rfl (by kernel_rfl) fun K hK => ?_
  go_wp2_with (first | (refine hT.mono ?_; rintro e w7 ⟨A7, c7, out, D, i, HO, rfl, hI7, _⟩))
  have hb7 := HO.out.2.1
  have Ba := Ba.ext hb7; have Bb := Bb.ext hb7
  have hS4 : S w7 := by rw [hSS.out]; exact ⟨Ba.cell 0, Bb.cell 0⟩
  have hb7' := ext_trans hb6' hb7
  refine hK.out _ _ ⟨fun _ => hS4, ?_⟩
  clear hK K hT hb7
  have hs7 := fun w => refSmall_any A7 out.length c7 w (Nat.le_trans hI7.lc hI7.cm)
  have HT : Hid (Tells (onlyF m l yes) (if 200 < out.length then 2 else 0) (if 200 < out.length then [] else out)) := Lib.hid (EachSay.tells ⟨out, HO.out.1.1, HO.out.1.2, rfl, rfl⟩ (only_vals HEA.out))
  by_cases hl : 200 < out.length
  · rw [if_pos hl, if_pos hl] at HT
    simp only [if_pos hl] at hs7
    clear hl
    refine WpN.one (i := 7) rfl (by kernel_rfl) fun K hK => ?_
    go_wp2_with (first | (refine (hs7 _).mono ?_; rintro e w8 ⟨rfl, rfl⟩))
    refine hK.out _ _ ⟨fun _ => hS4, ?_⟩
    clear hK K
    refine WpN.takeD (i := 8) (v := ?_) rfl rfl (by kernel_rfl) (fun _ _ _ h => h) (Or.inl ⟨by rfl, ?_⟩) (by assumption) ?_
    rotate_left
    · intro w hSw; rw [hSS.out] at hSw; obtain ⟨sw0, sw1⟩ := hSw; go_simp; try with_reducible rfl
    try simp only [Act.put, List.setIfInBounds_toArray, List.set_cons_zero, List.set_cons_succ]
    refine WpN.takeD (i := 9) (v := ?_) rfl rfl (by kernel_rfl) (fun _ _ _ h => h) (Or.inl ⟨by rfl, ?_⟩) (by assumption) ?_
    rotate_left
    · intro w hSw; rw [hSS.out] at hSw; obtain ⟨sw0, sw1⟩ := hSw; go_simp; try with_reducible rfl
    try simp only [Act.put, List.setIfInBounds_toArray, List.set_cons_zero, List.set_cons_succ]
    refine WpN.takeD (i := 10) (v := ?_) rfl rfl (by kernel_rfl) (fun _ _ _ h => h) (Or.inl ⟨by rfl, ?_⟩) (by assumption) ?_
    rotate_left
    · intro w hSw; rw [hSS.out] at hSw; obtain ⟨sw0, sw1⟩ := hSw; go_simp; try with_reducible rfl
    try simp only [Act.put, List.setIfInBounds_toArray, List.set_cons_zero, List.set_cons_succ]
    refine WpN.one (i := 11) rfl (by kernel_rfl) fun K hK => ?_
    go_wp2_with fail
    refine hK.out _ _ ⟨fun h => absurd h (by decide), ?_⟩
    refine WpN.done (by kernel_rfl) ?_ _
    clear hK K hSS hS0 hS1 hS2 hS3 hS4
    go_wp2_with fail
    refine bodyPost_ret (v := .tuple #[.slice none 0 0, .int .i64 2]) (by simp [results, Try.results44]) rfl ?_
    exact ⟨2, [], none, 0, Lib.hid (by unfold OnlySay; rw [if_pos HEA.out, if_pos HEB.out]; exact HT.out), rfl, PiecesAt.nil, hb7'⟩
  · rw [if_neg hl, if_neg hl] at HT
    simp only [if_neg hl] at hs7
    clear hl
    refine WpN.one (i := 7) rfl (by kernel_rfl) fun K hK => ?_
    go_wp2_with (first | (refine (hs7 _).mono ?_; rintro e w8 ⟨rfl, rfl⟩))
    refine hK.out _ _ ⟨fun _ => hS4, ?_⟩
    clear hK K
    refine WpN.takeD (i := 8) (v := ?_) rfl rfl (by kernel_rfl) (fun _ _ _ h => h) (Or.inl ⟨by rfl, ?_⟩) (by assumption) ?_
    rotate_left
    · intro w hSw; rw [hSS.out] at hSw; obtain ⟨sw0, sw1⟩ := hSw; go_simp; try with_reducible rfl
    try simp only [Act.put, List.setIfInBounds_toArray, List.set_cons_zero, List.set_cons_succ]
    refine WpN.takeD (i := 9) (v := ?_) rfl rfl (by kernel_rfl) (fun _ _ _ h => h) (Or.inl ⟨by rfl, ?_⟩) (by assumption) ?_
    rotate_left
    · intro w hSw; rw [hSS.out] at hSw; obtain ⟨sw0, sw1⟩ := hSw; go_simp; try with_reducible rfl
    try simp only [Act.put, List.setIfInBounds_toArray, List.set_cons_zero, List.set_cons_succ]
    refine WpN.takeD (i := 10) (v := ?_) rfl rfl (by kernel_rfl) (fun _ _ _ h => h) (Or.inl ⟨by rfl, ?_⟩) (by assumption) ?_
    rotate_left
    · intro w hSw; rw [hSS.out] at hSw; obtain ⟨sw0, sw1⟩ := hSw; go_simp; try with_reducible rfl
    try simp only [Act.put, List.setIfInBounds_toArray, List.set_cons_zero, List.set_cons_succ]
    refine WpN.one (i := 11) rfl (by kernel_rfl) fun K hK => ?_
    go_wp2_with fail
    refine hK.out _ _ ⟨fun h => absurd h (by decide), ?_⟩
    refine WpN.done (by kernel_rfl) ?_ _
    clear hK K hSS hS0 hS1 hS2 hS3 hS4
    go_wp2_with fail
    refine bodyPost_ret (v := .tuple #[.slice A7 out.length c7, .int .i64 0]) (by simp [results, Try.results44]) rfl ?_
    exact ⟨0, out, A7, c7, Lib.hid (by unfold OnlySay; rw [if_pos HEA.out, if_pos HEB.out]; exact HT.out), rfl, hI7, hb7'⟩
end Go.Proofs.Ytcfachfldanddaa
