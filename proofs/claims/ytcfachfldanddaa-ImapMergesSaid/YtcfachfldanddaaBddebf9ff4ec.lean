/- Several texts in one: RefMerge, LawMerges. -/
import Derived.Test.YtcfachfldanddaaBd112dc8e1cf
import Derived.Test.YtcfachfldanddaaBd712578e31d
import Derived.Test.YtcfachfldanddaaBdecb1d1e777
/- The walk of the document's Merge (printed by genrefmap2.py). -/
namespace Go.Proofs.Ytcfachfldanddaa
open Go.RowKit Go.Shelf

/-- Among the first pieces none has a value that is too far. -/
def NearTo (out : List PieceD) (k : Nat) : Prop := ∀ x, x ∈ out.take k → nearB x.v = true
theorem NearTo.vals {fn : Int → Option Int} {out : List PieceD} (h : NearTo out out.length) (ho : ∀ t, atM out t = fn t) : ∀ t v, fn t = some v → nearB v = true := fun t v hv => by
  obtain ⟨x, hx, _, _, rfl⟩ := at_some ((ho t).trans hv)
  exact h x (by rw [List.take_length]; exact hx)
theorem tells_far {fn : Int → Option Int} {out : List PieceD} {x : PieceD} (hm : MapL out) (ho : ∀ t, atM out t = fn t) (hx : x ∈ out) (hf : nearB x.v = false) : Tells fn 5 [] :=
  ⟨out, hm, ho, (tellErr_far ((ho x.f).symm.trans (hm.mem_at hx (Int.le_refl _) (hm.2 x hx))) hf).symm, fun h => by simp at h, fun _ => rfl⟩
set_option maxRecDepth 100000 in
set_option maxHeartbeats 8000000 in
theorem refMerge_any (A B : Option Addr) (c d : Nat) (a b : List PieceD) (k : Int) (w : World) (hA : PiecesAt w A c a) (hB : PiecesAt w B d b) :
    Calls Try.prog 36 #[.slice A a.length c, .slice B b.length d, .int .i64 k] w (MapOut (MergeSay k a b) w) := by
  have HA := Lib.hid hA; have HB := Lib.hid hB
  have hmf : ∀ (fn : Fn) (first cap : Array Value) (w : World), (Instr.makeFunc fn first cap).run Try.prog w = .ok (.func fn first cap) w := fun _ _ _ _ => rfl
  have hent := enters_refMerge1
  unfold Enters at hent
  obtain ⟨i0, hi, hz0, hz1, hz2⟩ := info_int2
  have m1 := hA.len
  have m2 := hB.len
  clear hA hB
  go_enter Try.func36, Try.ntmps36
  go_wp2_with fail
  obtain ⟨w0, hw0⟩ : ∃ w0, w0 = (((w.alloc (Obj.cells #[.slice A a.length c] 40)).alloc (Obj.cells #[.slice B b.length d] 40)).alloc (Obj.cells #[.int .i64 k] 3)) := ⟨_, rfl⟩
  have hb0 : Below w.heap.size w w0 := by rw [hw0]; go_grown
  have Ba : Blk w0 w.heap.size 40 #[.slice A a.length c] := by rw [hw0]; exact ((Blk.new _ _ _).alloc _).alloc _
  have Bb : Blk w0 (w.heap.size + 1) 40 #[.slice B b.length d] := by rw [hw0]; exact (Blk.new_ (by simp)).alloc _
  have Bh : Blk w0 (w.heap.size + 1 + 1) 3 #[.int .i64 k] := by rw [hw0]; exact Blk.new_ (by simp)
  rw [← hw0]
  clear hw0
  refine (refMap_any A c a w0 (HA.out.ext hb0)).mono ?_
  by_cases h0 : mapErr a = 0
  case neg =>
    have hd : (mapErr a != 0) = true := by simpa using h0
    have HS : Hid (MergeSay k a b (mapErr a) []) := Lib.hid (by unfold MergeSay; rw [if_neg h0]; exact ⟨rfl, rfl⟩)
    clear h0
    obtain ⟨er, her⟩ : ∃ er, mapErr a = er := ⟨_, rfl⟩
    rw [her] at hd HS ⊢
    clear her
    rintro e w1 ⟨rfl, hb1⟩
    go_wp2_with fail
    refine bodyPost_ret (v := .tuple #[.slice none 0 0, .int .i64 er]) (by simp [results, Try.results36]) rfl ?_
    exact ⟨er, [], none, 0, HS, rfl, PiecesAt.nil, ext_trans hb0 hb1⟩
  case pos =>
  have HEA := Lib.hid h0
  rw [h0]
  clear h0
  rintro e w1 ⟨rfl, hb1⟩
  have Ba := Ba.ext hb1
  have Bb := Bb.ext hb1
  have Bh := Bh.ext hb1
  have hb0 := ext_trans hb0 hb1
  clear hb1
  obtain ⟨c1, c2, c3⟩ := Bb.facts
  go_wp2_with fail
  refine (refMap_any B d b _ (HB.out.ext hb0)).mono ?_
  by_cases h0 : mapErr b = 0
  case neg =>
    have hd : (mapErr b != 0) = true := by simpa using h0
    have HS : Hid (MergeSay k a b (mapErr b) []) := Lib.hid (by unfold MergeSay; rw [if_pos HEA.out, if_neg h0]; exact ⟨rfl, rfl⟩)
    clear h0
    obtain ⟨er, her⟩ : ∃ er, mapErr b = er := ⟨_, rfl⟩
    rw [her] at hd HS ⊢
    clear her
    rintro e w1 ⟨rfl, hb1⟩
    go_wp2_with fail
    refine bodyPost_ret (v := .tuple #[.slice none 0 0, .int .i64 er]) (by simp [results, Try.results36]) rfl ?_
    exact ⟨er, [], none, 0, HS, rfl, PiecesAt.nil, ext_trans hb0 hb1⟩
  case pos =>
  have HEB := Lib.hid h0
  rw [h0]
  clear h0
  rintro e w1 ⟨rfl, hb1⟩
  have Ba := Ba.ext hb1
  have Bb := Bb.ext hb1
  have Bh := Bh.ext hb1
  have hb0 := ext_trans hb0 hb1
  clear hb1
  clear c1 c2 c3
  obtain ⟨c1, c2, c3⟩ := Bh.facts
  go_wp2_with fail
  refine (in_any _ _ _ _).mono ?_
  by_cases hk : 1 ≤ k ∧ k ≤ 3
  case neg =>
    have hkk : inB k 1 3 = false := by simp [inB]; omega
    rw [hkk]
    have HS : Hid (MergeSay k a b 1 []) := Lib.hid (by unfold MergeSay; rw [if_pos HEA.out, if_pos HEB.out, if_neg hk]; exact ⟨rfl, rfl⟩)
    clear hk hkk
    rintro e w2 ⟨rfl, rfl⟩
    go_wp2_with fail
    refine bodyPost_ret (v := .tuple #[.slice none 0 0, .int .i64 1]) (by simp [results, Try.results36]) rfl ?_
    exact ⟨1, [], none, 0, HS, rfl, PiecesAt.nil, hb0⟩
  case pos =>
  have hkk : inB k 1 3 = true := by simp [inB]; omega
  rw [hkk]
  have HK := Lib.hid hk
  clear hk hkk c1 c2 c3
  rintro e w2 ⟨rfl, rfl⟩
  go_wp2_with fail
  obtain ⟨w2, hw2⟩ : ∃ x, x = w1 := ⟨_, rfl⟩
  rw [← hw2] at Ba Bb Bh hb0 ⊢
  clear hw2
  obtain ⟨S, hSS⟩ : ∃ S : World → Prop, Hid (S = fun w' => w'.cell? ⟨w.heap.size, 0, none⟩ = some (.slice A a.length c) ∧ w'.cell? ⟨w.heap.size + 1, 0, none⟩ = some (.slice B b.length d)) := ⟨_, Lib.hid rfl⟩
  have Ba := Ba.drew; have Bb := Bb.drew; have Bh := Bh.drew
  have hS0 : S w2.drew := by rw [hSS.out]; exact ⟨Ba.cell 0, Bb.cell 0⟩
  have hb2 := below_drew hb0
  clear hb0
  have HBL : Hid (w.heap.size < w2.drew.heap.size ∧ w.heap.size + 1 < w2.drew.heap.size ∧ w.heap.size + 1 + 1 < w2.drew.heap.size) := Lib.hid ⟨Ba.lt, Bb.lt, Bh.lt⟩
  have hzw2 := hb2.size
  have hla := mapErr_zero HEA.out; have hlb := mapErr_zero HEB.out
  have HLA := Lib.hid hla; have HLB := Lib.hid hlb
  clear hla hlb
  refine WpN.begin (S := S) 7 (by kernel_rfl) ?_
  refine WpN.takeD (i := 0) (v := ?_) rfl rfl (by kernel_rfl) (fun _ _ _ h => h) (Or.inl ⟨by rfl, ?_⟩) (by assumption) ?_
  rotate_left
  · intro w hSw; rw [hSS.out] at hSw; obtain ⟨sw0, sw1⟩ := hSw; go_simp; try with_reducible rfl
  try simp only [Act.put, List.setIfInBounds_toArray, List.set_cons_zero, List.set_cons_succ]
  refine WpN.takeD (i := 2) (v := ?_) rfl rfl (by kernel_rfl) (fun _ _ _ h => h) (Or.inl ⟨by rfl, ?_⟩) (by assumption) ?_
  rotate_left
  · intro w hSw; rw [hSS.out] at hSw; obtain ⟨sw0, sw1⟩ := hSw; go_simp; try with_reducible rfl
  try simp only [Act.put, List.setIfInBounds_toArray, List.set_cons_zero, List.set_cons_succ]
  refine WpN.takeD (i := 5) (v := ?_) rfl rfl (by kernel_rfl) (fun _ _ _ h => h) (Or.inl ⟨by rfl, ?_⟩) (by assumption) ?_
  rotate_left
  · intro w hSw; rw [hSS.out] at hSw; obtain ⟨sw0, sw1⟩ := hSw; go_simp; try with_reducible rfl
  try simp only [Act.put, List.setIfInBounds_toArray, List.set_cons_zero, List.set_cons_succ]
  refine WpN.one (i := 1) rfl (by kernel_rfl) fun K hK => ?_
  go_wp2_with (first | (refine (refTurns_any A c a _ (HA.out.ext hb2) (by have := HLA.out.1; omega)).mono ?_; rintro e w4 ⟨v4, rfl, O4, hb4⟩))
  have Ba := Ba.ext hb4; have Bb := Bb.ext hb4; have Bh := Bh.ext hb4
  have hS1 : S w4 := by rw [hSS.out]; exact ⟨Ba.cell 0, Bb.cell 0⟩
  have hz4 := hb4.size
  have hb4' := ext_trans hb2 hb4
  refine hK.out _ _ ⟨fun _ => hS1, ?_⟩
  clear hK K hb4
  refine WpN.one (i := 3) rfl (by kernel_rfl) fun K hK => ?_
  go_wp2_with (first | (refine (refTurns_any B d b _ (HB.out.ext hb4') (by have := HLB.out.1; omega)).mono ?_; rintro e w5 ⟨v5, rfl, O5, hb5⟩))
  have Ba := Ba.ext hb5; have Bb := Bb.ext hb5; have Bh := Bh.ext hb5
  have hS2 : S w5 := by rw [hSS.out]; exact ⟨Ba.cell 0, Bb.cell 0⟩
  have O4 := O4.ext hb5
  have hz5 := hb5.size
  have hb5' := ext_trans hb4' hb5
  refine hK.out _ _ ⟨fun _ => hS2, ?_⟩
  clear hK K hb5 hb4'
  refine WpN.one (i := 4) rfl (by kernel_rfl) fun K hK => ?_
  refine wp_append_two (enc := intEnc) (.tmp 26) (.tmp 28) 81 rfl w2.drew.heap.size w4.heap.size 3 i0 _ 1 8 Try.underlying81 hi hz0 hz1 hz2 rfl (by decide) v4 v5 (endsP a) (endsP b) rfl rfl O4 O5 (ints_one _) (by rw [endsP_len, endsP_len]; have := HLA.out.1; have := HLB.out.1; omega) (by decide) (by omega) ?_
  intro v6 w6 O6 hb6
  obtain ⟨qs, hqs⟩ : ∃ q, q = endsP a ++ endsP b := ⟨_, rfl⟩
  rw [← hqs] at O6
  have HQS := Lib.hid hqs
  clear hqs
  have hba : w.heap.size < w2.drew.heap.size ∧ w.heap.size + 1 < w2.drew.heap.size ∧ w.heap.size + 1 + 1 < w2.drew.heap.size := HBL.out
  have Ba := Ba.below hb6 hba.1; have Bb := Bb.below hb6 hba.2.1; have Bh := Bh.below hb6 hba.2.2
  have hS3 : S w6 := by rw [hSS.out]; exact ⟨Ba.cell 0, Bb.cell 0⟩
  have hb6' : Below w.heap.size w w6 := hb5'.trans (hb6.mono (by omega))
  obtain ⟨A6, c6, rfl, hI6⟩ := own_ints O6 (fun n hn => by
    rw [HQS.out] at hn
    rcases List.mem_append.1 hn with hn | hn
    · exact endsP_i64 HA.out n hn
    · exact endsP_i64 HB.out n hn)
  have hT := told_gen 85 #[.pointer (some ⟨w.heap.size, 0, none⟩), .pointer (some ⟨w.heap.size + 1, 0, none⟩), .pointer (some ⟨w.heap.size + 1 + 1, 0, none⟩)] (mergeF k a b) hent A6 c6 qs w6 hI6
    (by rw [HQS.out, List.length_append, endsP_len, endsP_len]; have := HLA.out.1; have := HLB.out.1; omega)
    (fun D h1 h2 => (endsP_turns (l := a) h1 h2 fun _ h => by rw [HQS.out]; exact List.mem_append_left _ h).map2 (bothO k) rfl (endsP_turns (l := b) h1 h2 fun _ h => by rw [HQS.out]; exact List.mem_append_right _ h))
    (fun t v hv => mergeF_i64 HEA.out HEB.out hv)
    (fun _ _ W => Below w6.heap.size w6 W) (fun _ _ h => h) (fun _ _ _ _ h h' => h.trans h')
    (fun D i W x _ _ hb _ _ _ => (refMerge1_any A B c d w.heap.size (w.heap.size + 1) (w.heap.size + 1 + 1) a b k x W HK.out ((Ba.ext hb).cell 0) ((Bb.ext hb).cell 0) ((Bh.ext hb).cell 0) ((HA.out.ext hb6').ext hb) ((HB.out.ext hb6').ext hb) HEA.out HEB.out).mono fun e w' ⟨v, h1, h2, h3⟩ => ⟨v, h1, h2, ext_trans hb h3, Late.of_below h3⟩)
  refine hK.out _ _ ⟨fun _ => hS3, ?_⟩
  clear hK K hb5' hb6 O4 O5 O6
  refine WpN.one (i := 6) rfl (by kernel_rfl) fun K hK => ?_
  go_wp2_with (first | (refine hT.mono ?_; rintro e w7 ⟨A7, c7, out, D, i, HO, rfl, hI7, _⟩))
  have hb7 := HO.out.2.1
  have Ba := Ba.ext hb7; have Bb := Bb.ext hb7
  have hS4 : S w7 := by rw [hSS.out]; exact ⟨Ba.cell 0, Bb.cell 0⟩
  have hb7' := ext_trans hb6' hb7
  refine hK.out _ _ ⟨fun _ => hS4, ?_⟩
  clear hK K hT hb7
  refine WpN.one (i := 7) rfl (by kernel_rfl) fun K hK => ?_
  go_wp2_with fail
  refine hK.out _ _ ⟨fun h => absurd h (by decide), ?_⟩
  refine WpN.done (by kernel_rfl) ?_ _
  clear hK K hSS hS0 hS1 hS2 hS3 hS4
  have HI7 := Lib.hid hI7
  have m7 := hI7.len
  have h7 : out.length ≤ maxLen := Nat.le_trans hI7.lc hI7.cm
  have H7 := Lib.hid h7
  have HW7 := Lib.hid hb7'
  clear hI7 h7 hb7' hb2
  go_wp2_with fail
  go_loopw [11] (fun v wr => ∃ j : Nat, j ≤ out.length ∧ v = .int .i64 j ∧ wr = w7 ∧ Hid (NearTo out j)) (fun v _ => out.length - (intOf v).toNat)
  case atStart => exact ⟨0, Nat.zero_le _, rfl, rfl, Lib.hid fun x hx => by simp at hx⟩
  case round =>
    obtain ⟨j, hj, rfl, rfl, HN⟩ := hrel
    by_cases hlt : j < out.length
    case neg =>
      obtain rfl : j = out.length := by omega
      have hv := HN.out.vals HO.out.1.2
      have HV := Lib.hid hv
      clear hv
      have hs7 := fun w => refSmall_any A7 out.length c7 w H7.out
      have HT : Hid (Tells (mergeF k a b) (if 200 < out.length then 2 else 0) (if 200 < out.length then [] else out)) := Lib.hid (EachSay.tells ⟨out, HO.out.1.1, HO.out.1.2, rfl, rfl⟩ HV.out)
      by_cases hl : 200 < out.length
      · rw [if_pos hl, if_pos hl] at HT
        simp only [if_pos hl] at hs7
        clear hl
        go_wp2_with (first | (refine (hs7 _).mono ?_; rintro e w8 ⟨rfl, rfl⟩))
        refine bodyPost_ret (v := .tuple #[.slice none 0 0, .int .i64 2]) (by simp [results, Try.results36]) rfl ?_
        exact ⟨2, [], none, 0, Lib.hid (by unfold MergeSay; rw [if_pos HEA.out, if_pos HEB.out, if_pos HK.out]; exact HT.out), rfl, PiecesAt.nil, HW7.out⟩
      · rw [if_neg hl, if_neg hl] at HT
        simp only [if_neg hl] at hs7
        clear hl
        go_wp2_with (first | (refine (hs7 _).mono ?_; rintro e w8 ⟨rfl, rfl⟩))
        refine bodyPost_ret (v := .tuple #[.slice A7 out.length c7, .int .i64 0]) (by simp [results, Try.results36]) rfl ?_
        exact ⟨0, out, A7, c7, Lib.hid (by unfold MergeSay; rw [if_pos HEA.out, if_pos HEB.out, if_pos HK.out]; exact HT.out), rfl, HI7.out, HW7.out⟩
    case pos =>
      obtain ⟨x, hx⟩ := get_lt hlt
      obtain ⟨bb, off, rfl, hb0, x0, x1, x2⟩ := HI7.out.get hx
      have HX := Lib.hid hx
      clear hx x0 x1
      cases hn : nearB x.v
      case true =>
        have hnr := fun W => near_is hn W
        have HN2 : Hid (NearTo out (j + 1)) := Lib.hid fun y hy => by
          rw [takeM_succ HX.out] at hy
          rcases List.mem_append.1 hy with hy | hy
          · exact HN.out y hy
          · obtain rfl : y = x := by simpa using hy
            exact hn
        go_wp2_with (first | (go_at_call 72; refine (hnr _).mono ?_; rintro e w' ⟨rfl, rfl⟩))
        go_roundw
        case rel => exact ⟨j + 1, by omega, by go_num, trivial, HN2⟩
        case measure => simp [intOf]; omega
      case false =>
        have hnr := fun W => near_is hn W
        have HS : Hid (MergeSay k a b 5 []) := Lib.hid (by unfold MergeSay; rw [if_pos HEA.out, if_pos HEB.out, if_pos HK.out]; exact tells_far HO.out.1.1 HO.out.1.2 (List.mem_of_getElem? HX.out) hn)
        go_wp2_with (first | (go_at_call 72; refine (hnr _).mono ?_; rintro e w' ⟨rfl, rfl⟩))
        refine bodyPost_ret (v := .tuple #[.slice none 0 0, .int .i64 5]) (by simp [results, Try.results36]) rfl ?_
        exact ⟨5, [], none, 0, HS, rfl, PiecesAt.nil, HW7.out⟩
end Go.Proofs.Ytcfachfldanddaa
/- The law ImapMerges. -/
namespace Go.Proofs.Ytcfachfldanddaa
open Go.RowKit Go.Shelf

set_option maxRecDepth 100000 in
set_option maxHeartbeats 4000000 in
theorem imapMerges_calls (A0 : Option Addr) (c0 : Nat) (l0 : List PieceD) {w0 : World} (hI0 : PiecesAt w0 A0 c0 l0) (A1 : Option Addr) (c1 : Nat) (l1 : List PieceD) (hI1 : PiecesAt w0 A1 c1 l1) (k : Int) (_ : I64 k) :
    Calls Try.prog 8 #[.slice A0 l0.length c0, .slice A1 l1.length c1, .int .i64 k] w0 fun e w' => e = .returned (.bool true) ∧ Below w0.heap.size w0 w' := by
  have m0 := hI0.len
  have m1 := hI1.len
  have H0 := Lib.hid hI0
  have H1 := Lib.hid hI1
  clear hI0 hI1
  go_enter Try.func8, Try.ntmps8
  go_wp2_with fail
  refine (imapMerge_any A0 A1 c0 c1 l0 l1 k _ H0.out H1.out).mono ?_
  rintro e w1 ⟨er, x, Ax, cx, HX, rfl, hIx, hb1⟩
  go_wp2_with fail
  refine (refMerge_any A0 A1 c0 c1 l0 l1 k _ (H0.out.ext hb1) (H1.out.ext hb1)).mono ?_
  rintro e w2 ⟨er', y, Ay, cy, HY, rfl, hIy, hb2⟩
  obtain ⟨rfl, rfl⟩ := HX.out.same HY.out
  have hIx := hIx.ext hb2
  have hb2 := ext_trans hb1 hb2
  clear hb1
  go_wp2_with fail
  refine (equalPiecesSame _ _ _ _ _ _ hIx hIy).mono ?_
  rintro e w3 ⟨rfl, hb3⟩
  go_wp2_with fail
  go_ret
  exact ⟨by simp, ext_trans hb2 hb3⟩
end Go.Proofs.Ytcfachfldanddaa
