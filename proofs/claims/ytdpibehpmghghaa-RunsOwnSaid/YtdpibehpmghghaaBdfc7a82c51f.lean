/- One text: MapOnly. -/
import Derived.Test.YtdpibehpmghghaaBd3210d740f8
import Derived.Test.YtdpibehpmghghaaBda2f47ef360
import Derived.Test.YtdpibehpmghghaaBd2f2e3a0852
/- The walks of imap.only, Cut, Keep; imap.pieces (printed by genmaponly.py). -/
namespace Go.Proofs.Ytdpibehpmghghaa
open Go.RowKit Go.Shelf

theorem enters_only1 : Enters Try.prog 60 := enters_of Try.func60 (by kernel_rfl) rfl
set_option maxRecDepth 100000 in
set_option maxHeartbeats 4000000 in
theorem only1_any (A B : Option Addr) (c d ba bb bh : Nat) (m : List PieceD) (l : List IvlD) (yes : Bool) (t : Int) (W : World) (hca : W.cell? ⟨ba, 0, none⟩ = some (.slice A m.length c)) (hcb : W.cell? ⟨bb, 0, none⟩ = some (.slice B l.length d))
    (hch : W.cell? ⟨bh, 0, none⟩ = some (.bool yes)) (hA : PiecesAt W A c m) (hB : IvlsAt W B d l) :
    Calls Try.prog 60 #[.int .i64 t, .pointer (some ⟨ba, 0, none⟩), .pointer (some ⟨bb, 0, none⟩), .pointer (some ⟨bh, 0, none⟩)] W fun e w' => e = .returned (atV (onlyF m l yes t)) ∧ Below W.heap.size W w' := by
  have hlb : bb < W.heap.size := World.block_lt_of_cell? W _ hcb
  have hlh : bh < W.heap.size := World.block_lt_of_cell? W _ hch
  have hc1 := imapAt_any A c m t W hA
  have HB := Lib.hid hB
  clear hA hB
  cases hq : atM m t with
  | none =>
    have HR : Hid (onlyF m l yes t = none) := Lib.hid (by unfold onlyF; rw [hq]; split <;> rfl)
    rw [hq] at hc1
    unfold atV at hc1
    simp only [Option.getD_none, Option.isSome_none] at hc1
    clear hq
    go_enter Try.func60, Try.ntmps60
    go_wp2_with fail
    refine hc1.mono ?_
    rintro e w1 ⟨rfl, hb1⟩
    clear hc1
    go_wp2_with fail
    go_quiet (fail)
    go_wp2_with fail
    refine bodyPost_ret (v := .tuple #[.int .i64 0, .bool false]) (by simp [results, Try.results60]) rfl ?_
    exact ⟨by rw [HR.out]; rfl, below_drewN hb1 _⟩
  | some y =>
    obtain ⟨q, hhas⟩ : ∃ q, hasB l t = q := ⟨_, rfl⟩
    have HR : Hid (onlyF m l yes t = if q = yes then some y else none) := Lib.hid (by unfold onlyF; rw [hq, hhas])
    have HH := Lib.hid hhas
    rw [hq] at hc1
    unfold atV at hc1
    simp only [Option.getD_some, Option.isSome_some] at hc1
    clear hq hhas
    cases q <;> cases yes
    all_goals
      go_enter Try.func60, Try.ntmps60
      go_wp2_with fail
      refine hc1.mono ?_
      rintro e w1 ⟨rfl, hb1⟩
      clear hc1
      go_wp2_with fail
      obtain ⟨v4, hv4⟩ : ∃ v, W.cell? ⟨bh, 0, none⟩ = some v := ⟨_, hch⟩
      rw [hch] at hv4
      obtain ⟨S, hSS⟩ : ∃ S : World → Prop, Hid (S = fun w' => w'.cell? ⟨bb, 0, none⟩ = some (.slice B l.length d) ∧ w'.cell? ⟨bh, 0, none⟩ = W.cell? ⟨bh, 0, none⟩) := ⟨_, Lib.hid rfl⟩
      rw [hch] at hSS
      have hb1 := below_drew hb1
      have hS0 : S w1.drew := by rw [hSS.out]; exact ⟨(hb1.cell (p := ⟨bb, 0, none⟩) hlb).trans hcb, (hb1.cell (p := ⟨bh, 0, none⟩) hlh).trans hch⟩
      have hIw := HB.out.ext hb1
      clear hv4
      refine WpN.begin (S := S) 8 (by kernel_rfl) ?_
      refine WpN.takeD (i := 0) (v := ?_) rfl rfl (by kernel_rfl) (fun _ _ _ h => h) (Or.inl ⟨by rfl, ?_⟩) (by assumption) ?_
      rotate_left
      · intro w hSw; rw [hSS.out] at hSw; obtain ⟨sw0, sw1⟩ := hSw; go_simp; try with_reducible rfl
      try simp only [Act.put, List.setIfInBounds_toArray, List.set_cons_zero, List.set_cons_succ]
      refine WpN.takeD (i := 1) (v := ?_) rfl rfl (by kernel_rfl) (fun _ _ _ h => h) (Or.inl ⟨by rfl, ?_⟩) (by assumption) ?_
      rotate_left
      · intro w hSw; rw [hSS.out] at hSw; obtain ⟨sw0, sw1⟩ := hSw; go_simp; try with_reducible rfl
      try simp only [Act.put, List.setIfInBounds_toArray, List.set_cons_zero, List.set_cons_succ]
      refine WpN.takeD (i := 2) (v := ?_) rfl rfl (by kernel_rfl) (fun _ _ _ h => h) (Or.inl ⟨by rfl, ?_⟩) (by assumption) ?_
      rotate_left
      · intro w hSw; rw [hSS.out] at hSw; obtain ⟨sw0, sw1⟩ := hSw; go_simp; try with_reducible rfl
      try simp only [Act.put, List.setIfInBounds_toArray, List.set_cons_zero, List.set_cons_succ]
      refine WpN.takeD (i := 3) (v := ?_) rfl rfl (by kernel_rfl) (fun _ _ _ h => h) (Or.inl ⟨by rfl, ?_⟩) (by assumption) ?_
      rotate_left
      · intro w hSw; rw [hSS.out] at hSw; obtain ⟨sw0, sw1⟩ := hSw; go_simp; try with_reducible rfl
      try simp only [Act.put, List.setIfInBounds_toArray, List.set_cons_zero, List.set_cons_succ]
      refine WpN.takeD (i := 4) (v := ?_) rfl rfl (by kernel_rfl) (fun _ _ _ h => h) (Or.inl ⟨by rfl, ?_⟩) (by assumption) ?_
      rotate_left
      · intro w hSw; rw [hSS.out] at hSw; obtain ⟨sw0, sw1⟩ := hSw; go_simp; try with_reducible rfl
      try simp only [Act.put, List.setIfInBounds_toArray, List.set_cons_zero, List.set_cons_succ]
      refine WpN.takeD (i := 6) (v := ?_) rfl rfl (by kernel_rfl) (fun _ _ _ h => h) (Or.inl ⟨by rfl, ?_⟩) (by assumption) ?_
      rotate_left
      · intro w hSw; rw [hSS.out] at hSw; obtain ⟨sw0, sw1⟩ := hSw; go_simp; try with_reducible rfl
      try simp only [Act.put, List.setIfInBounds_toArray, List.set_cons_zero, List.set_cons_succ]
      refine WpN.one (i := 5) rfl (by kernel_rfl) fun K hK => ?_
      go_wp2_with (first | (refine (ivlHas_any B d l t _ hIw).mono ?_; rw [HH.out]; rintro e w4 ⟨rfl, hb4⟩))
      have hb5 := ext_trans hb1 hb4
      have hS1 : S w4 := by rw [hSS.out]; exact ⟨(hb5.cell (p := ⟨bb, 0, none⟩) hlb).trans hcb, (hb5.cell (p := ⟨bh, 0, none⟩) hlh).trans hch⟩
      refine hK.out _ _ ⟨fun _ => hS1, ?_⟩
      clear hK K hb4
      refine WpN.takeD (i := 7) (v := ?_) rfl rfl (by kernel_rfl) (fun _ _ _ h => h) (Or.inl ⟨by rfl, ?_⟩) (by assumption) ?_
      rotate_left
      · intro w hSw; rw [hSS.out] at hSw; obtain ⟨sw0, sw1⟩ := hSw; go_simp; try with_reducible rfl
      try simp only [Act.put, List.setIfInBounds_toArray, List.set_cons_zero, List.set_cons_succ]
      refine WpN.one (i := 8) rfl (by kernel_rfl) fun K hK => ?_
      go_wp2_with fail
      refine hK.out _ _ ⟨fun h => absurd h (by decide), ?_⟩
      clear hK K
      refine WpN.done (by kernel_rfl) ?_ _
      clear hSS hS0 hS1
      go_wp2_with fail
      first
      | refine bodyPost_ret (v := .tuple #[.int .i64 0, .bool false]) (by simp [results, Try.results60]) rfl ?_
        exact ⟨by rw [HR.out]; rfl, hb5⟩
      | refine bodyPost_ret (v := .tuple #[.int .i64 y, .bool true]) (by simp [results, Try.results60]) rfl ?_
        exact ⟨by rw [HR.out]; rfl, hb5⟩
/-- Pieces of a set. -/
def zeroP (l : List IvlD) : List PieceD := l.map fun x => ⟨x.f, x.t, 0⟩
theorem zeroP_succ {l : List IvlD} {k : Nat} {x : IvlD} (h : l[k]? = some x) : zeroP (l.take (k + 1)) = zeroP (l.take k) ++ [⟨x.f, x.t, 0⟩] := by
  unfold zeroP; rw [take_succ_ h, List.map_append]; rfl
theorem zeroP_len (l : List IvlD) : (zeroP l).length = l.length := List.length_map _
theorem mem_zeroP {l : List IvlD} {x : IvlD} (h : x ∈ l) : x.f ∈ endsP (zeroP l) ∧ x.t ∈ endsP (zeroP l) := by
  have h2 : (⟨x.f, x.t, 0⟩ : PieceD) ∈ zeroP l := List.mem_map.2 ⟨x, h, rfl⟩
  exact ⟨mem_endsP.2 ⟨_, h2, .inl rfl⟩, mem_endsP.2 ⟨_, h2, .inr rfl⟩⟩
set_option maxHeartbeats 4000000 in
theorem imapPieces_any (A : Option Addr) (c : Nat) (l : List IvlD) (w : World) (hI : IvlsAt w A c l) (hl : l.length ≤ 1000) :
    Calls Try.prog 59 #[.slice A l.length c] w fun e w' => ∃ A' c', e = .returned (.slice A' l.length c') ∧ PiecesAt w' A' c' (zeroP l) ∧ Below w.heap.size w w' := by
  obtain ⟨i0, hi, hz0, hz1, hz2⟩ := info_piece2
  have m1 := hI.len
  have HI := Lib.hid hI
  clear hI
  go_enter Try.func59, Try.ntmps59
  go_wp2_with fail
  go_loopw [3, 8] (fun u v wr => ∃ k : Nat, k ≤ l.length ∧ v = .int .i64 k ∧ Own pieceC 3 wr w.heap.size 25 u (zeroP (l.take k)) ∧ Below w.heap.size w wr) (fun _ v _ => l.length - (intOf v).toNat)
  case atStart => exact ⟨0, Nat.zero_le _, rfl, Own.nil, Below.refl _ _⟩
  case round =>
    obtain ⟨k, hk, rfl, hO, hb⟩ := hrel
    have hzw := hb.size
    by_cases hlt : k < l.length
    case neg =>
      obtain rfl : k = l.length := by omega
      rw [List.take_length] at hO
      obtain ⟨A2, c2, rfl, hI2⟩ := own_pieces hO (fun y hy => by
        obtain ⟨x, hx, rfl⟩ := List.mem_map.1 hy
        obtain ⟨j, hj⟩ := List.getElem?_of_mem hx
        have := HI.out.i64 hj
        exact ⟨this.1, this.2, by show I64 0; unfold I64; omega⟩)
      rw [zeroP_len]
      clear hO
      go_wp2_with fail
      go_ret
      exact ⟨A2, c2, rfl, hI2, hb⟩
    case pos =>
      obtain ⟨x, hx⟩ := get_lt hlt
      obtain ⟨b, off, rfl, hb0, x0, x1⟩ := HI.out.get hx
      rw [← hb.cell (by exact hb0)] at x0 x1
      have HN := Lib.hid (zeroP_succ hx)
      have hcl : (zeroP (l.take k)).length + 1 ≤ 1000000 := by rw [zeroP_len, List.length_take]; omega
      obtain ⟨a2, ha2⟩ : ∃ a2, a2 = zeroP (l.take k) := ⟨_, rfl⟩
      have HA2 := Lib.hid ha2
      rw [← ha2] at hcl hO
      clear hx ha2
      go_wp2_with (at_builtin; refine wpList_append_lie (enc := pieceC) rfl (.tmp 12) (.tmp 18) 23 rfl w.heap.size 25 i0 _ 3 24 Try.underlying23 hi hz0 hz1 hz2 rfl (by decide) _ a2 ⟨x.f, x.t, 0⟩ rfl (hO.alloc _) #[.int .i64 x.f, .int .i64 x.t, .int .i64 0] rfl (wr.heap.size + 1) (by simp) rfl rfl three_ints hcl (by decide) (by simp; omega) ?_; intro gn cap w6 hown6 hb8 hkp hgn)
      go_roundw
      case rel => exact ⟨k + 1, by omega, by go_num, by rw [HN.out, ← HA2.out]; exact hown6, (ext_alloc hb _).trans hb8⟩
      case measure => simp [intOf]; omega

set_option maxRecDepth 100000 in
set_option maxHeartbeats 8000000 in
theorem mapOnly_any (A B : Option Addr) (c d : Nat) (m : List PieceD) (l : List IvlD) (yes : Bool) (w : World) (hA : PiecesAt w A c m) (hB : IvlsAt w B d l) :
    Calls Try.prog 37 #[.slice A m.length c, .slice B l.length d, .bool yes] w (MapOut (OnlySay m l yes) w) := by
  have HA := Lib.hid hA; have HB := Lib.hid hB
  have hmf : ∀ (fn : Fn) (first cap : Array Value) (w : World), (Instr.makeFunc fn first cap).run Try.prog w = .ok (.func fn first cap) w := fun _ _ _ _ => rfl
  have hent := enters_only1
  unfold Enters at hent
  have m1 := hA.len
  have m2 := hB.len
  clear hA hB
  go_enter Try.func37, Try.ntmps37
  go_wp2_with fail
  obtain ⟨w0, hw0⟩ : ∃ w0, w0 = (((w.alloc (Obj.cells #[.slice A m.length c] 23)).alloc (Obj.cells #[.slice B l.length d] 22)).alloc (Obj.cells #[.bool yes] 4)) := ⟨_, rfl⟩
  have hb0 : Below w.heap.size w w0 := by rw [hw0]; go_grown
  have Ba : Blk w0 w.heap.size 23 #[.slice A m.length c] := by rw [hw0]; exact ((Blk.new _ _ _).alloc _).alloc _
  have Bb : Blk w0 (w.heap.size + 1) 22 #[.slice B l.length d] := by rw [hw0]; exact (Blk.new_ (by simp)).alloc _
  have Bh : Blk w0 (w.heap.size + 1 + 1) 4 #[.bool yes] := by rw [hw0]; exact Blk.new_ (by simp)
  rw [← hw0]
  clear hw0
  refine (imapCheck_any A c m w0 (HA.out.ext hb0)).mono ?_
  by_cases h0 : mapErr m = 0
  case neg =>
    have hd : (mapErr m != 0) = true := by simpa using h0
    have HS : Hid (OnlySay m l yes (mapErr m) []) := Lib.hid (by unfold OnlySay; rw [if_neg h0]; exact ⟨rfl, rfl⟩)
    clear h0
    obtain ⟨er, her⟩ : ∃ er, mapErr m = er := ⟨_, rfl⟩
    rw [her] at hd HS ⊢
    clear her
    rintro e w1 ⟨rfl, hb1⟩
    go_wp2_with fail
    refine bodyPost_ret (v := .tuple #[.slice none 0 0, .int .i64 er]) (by simp [results, Try.results37]) rfl ?_
    exact ⟨er, [], none, 0, HS, rfl, .nil, ext_trans hb0 hb1⟩
  case pos =>
  have HEA := Lib.hid h0
  rw [h0]
  clear h0
  rintro e w1 ⟨rfl, hb1⟩
  have Ba := Ba.ext hb1; have Bb := Bb.ext hb1; have Bh := Bh.ext hb1
  have hb1 := ext_trans hb0 hb1
  clear hb0
  obtain ⟨c1, c2, c3⟩ := Bb.facts
  go_wp2_with fail
  refine (ivlCheck_any B d l _ (HB.out.ext hb1)).mono ?_
  by_cases h0 : setErr l = 0
  case neg =>
    have hd : (setErr l != 0) = true := by simpa using h0
    have HS : Hid (OnlySay m l yes (setErr l) []) := Lib.hid (by unfold OnlySay; rw [if_pos HEA.out, if_neg h0]; exact ⟨rfl, rfl⟩)
    clear h0
    obtain ⟨er, her⟩ : ∃ er, setErr l = er := ⟨_, rfl⟩
    rw [her] at hd HS ⊢
    clear her
    rintro e w2 ⟨rfl, hb2⟩
    go_wp2_with fail
    refine bodyPost_ret (v := .tuple #[.slice none 0 0, .int .i64 er]) (by simp [results, Try.results37]) rfl ?_
    exact ⟨er, [], none, 0, HS, rfl, .nil, ext_trans hb1 hb2⟩
  case pos =>
  have HEB := Lib.hid h0
  rw [h0]
  clear h0
  rintro e w2 ⟨rfl, hb2⟩
  have Ba := Ba.ext hb2; have Bb := Bb.ext hb2; have Bh := Bh.ext hb2
  have hb2 := ext_trans hb1 hb2
  clear hb1 c1 c2 c3
  go_wp2_with fail
  obtain ⟨S, hSS⟩ : ∃ S : World → Prop, Hid (S = fun w' => w'.cell? ⟨w.heap.size, 0, none⟩ = some (.slice A m.length c) ∧ w'.cell? ⟨w.heap.size + 1, 0, none⟩ = some (.slice B l.length d)) := ⟨_, Lib.hid rfl⟩
  have Ba := Ba.drew; have Bb := Bb.drew; have Bh := Bh.drew
  have hS0 : S w2.drew := by rw [hSS.out]; exact ⟨Ba.cell 0, Bb.cell 0⟩
  have hb2 := below_drew hb2
  have hla := mapErr_zero HEA.out; have hlb := setErr_zero HEB.out
  have HLA := Lib.hid hla; have HLB := Lib.hid hlb
  clear hla hlb
  refine WpN.begin (S := S) 10 (by kernel_rfl) ?_
  refine WpN.takeD (i := 0) (v := ?_) rfl rfl (by kernel_rfl) (fun _ _ _ h => h) (Or.inl ⟨by rfl, ?_⟩) (by assumption) ?_
  rotate_left
  · intro w hSw; rw [hSS.out] at hSw; obtain ⟨sw0, sw1⟩ := hSw; go_simp; try with_reducible rfl
  try simp only [Act.put, List.setIfInBounds_toArray, List.set_cons_zero, List.set_cons_succ]
  refine WpN.takeD (i := 1) (v := ?_) rfl rfl (by kernel_rfl) (fun _ _ _ h => h) (Or.inl ⟨by rfl, ?_⟩) (by assumption) ?_
  rotate_left
  · intro w hSw; rw [hSS.out] at hSw; obtain ⟨sw0, sw1⟩ := hSw; go_simp; try with_reducible rfl
  try simp only [Act.put, List.setIfInBounds_toArray, List.set_cons_zero, List.set_cons_succ]
  refine WpN.takeD (i := 5) (v := ?_) rfl rfl (by kernel_rfl) (fun _ _ _ h => h) (Or.inl ⟨by rfl, ?_⟩) (by assumption) ?_
  rotate_left
  · intro w hSw; rw [hSS.out] at hSw; obtain ⟨sw0, sw1⟩ := hSw; go_simp; try with_reducible rfl
  try simp only [Act.put, List.setIfInBounds_toArray, List.set_cons_zero, List.set_cons_succ]
  refine WpN.one (i := 2) rfl (by kernel_rfl) fun K hK => ?_
  go_wp2_with (first | (refine (imapPieces_any B d l _ (HB.out.ext hb2) (by have := HLB.out.1; omega)).mono ?_; rintro e w4 ⟨A4, c4, rfl, hP4, hb4⟩))
  have Ba := Ba.ext hb4; have Bb := Bb.ext hb4; have Bh := Bh.ext hb4
  have hS1 : S w4 := by rw [hSS.out]; exact ⟨Ba.cell 0, Bb.cell 0⟩
  have hb4' := ext_trans hb2 hb4
  refine hK.out _ _ ⟨fun _ => hS1, ?_⟩
  clear hK K hb4
  refine WpN.one (i := 3) rfl (by kernel_rfl) fun K hK => ?_
  go_wp2_with fail
  have B5 := Blk.new w4 23 #[.slice A m.length c, .slice A4 l.length c4]
  have hb5 := ext_alloc hb4' (Obj.cells #[.slice A m.length c, .slice A4 l.length c4] 23)
  have hb45 := ext_alloc (Below.refl _ w4) (Obj.cells #[.slice A m.length c, .slice A4 l.length c4] 23)
  have Ba := Ba.ext hb45; have Bb := Bb.ext hb45; have Bh := Bh.ext hb45
  have hP4 := hP4.ext hb45
  have hS2 : S (w4.alloc (Obj.cells #[.slice A m.length c, .slice A4 l.length c4] 23)) := by rw [hSS.out]; exact ⟨Ba.cell 0, Bb.cell 0⟩
  refine hK.out _ _ ⟨fun _ => hS2, ?_⟩
  clear hK K hb45 hb4'
  have hzl := zeroP_len l
  have hE := edges_any w4.heap.size A A4 c c4 m (zeroP l) _ (by rw [hzl]; exact B5) (HA.out.ext hb5) hP4 (by have := HLA.out.1; omega) (by rw [hzl]; have := HLB.out.1; omega)
  refine WpN.one (i := 4) rfl (by kernel_rfl) fun K hK => ?_
  go_wp2_with (first | (refine hE.mono ?_; rintro e w6 ⟨A6, c6, D, HD, rfl, hI6, hb6⟩))
  have Ba := Ba.ext hb6; have Bb := Bb.ext hb6; have Bh := Bh.ext hb6
  have hS3 : S w6 := by rw [hSS.out]; exact ⟨Ba.cell 0, Bb.cell 0⟩
  have hb6' := ext_trans hb5 hb6
  refine hK.out _ _ ⟨fun _ => hS3, ?_⟩
  clear hK K hE hb6 hb5 hP4
  have hDl : D.length ≤ 10000 := by
    have h1 := HD.out.2.2
    rw [List.length_append, endsP_len, endsP_len, hzl] at h1
    have h2 := HLA.out.1
    have h3 := HLB.out.1
    omega
  have hT := each_any 60 #[.pointer (some ⟨w.heap.size, 0, none⟩), .pointer (some ⟨w.heap.size + 1, 0, none⟩), .pointer (some ⟨w.heap.size + 1 + 1, 0, none⟩)] (onlyF m l yes) hent A6 c6 D w6 hI6 hDl HD.out.1
    ((hasB_turns HD.out.1 fun x hx => ⟨(HD.out.2.1 _).2 (List.mem_append_right _ (mem_zeroP hx).1), (HD.out.2.1 _).2 (List.mem_append_right _ (mem_zeroP hx).2)⟩).map2 (fun x y => if x = yes then y else none) (by split <;> rfl) (endsP_turns (l := m) HD.out.1 HD.out.2.1 fun _ h => List.mem_append_left _ h))
    (fun t v hv => near_i64 (only_vals HEA.out t v hv))
    (fun W x hb => only1_any A B c d w.heap.size (w.heap.size + 1) (w.heap.size + 1 + 1) m l yes x W ((Ba.ext hb).cell 0) ((Bb.ext hb).cell 0) ((Bh.ext hb).cell 0) ((HA.out.ext hb6').ext hb) ((HB.out.ext hb6').ext hb))
  clear hDl
  refine WpN.one (i := 6) rfl (by kernel_rfl) fun K hK => ?_
  go_wp2_with (first | (refine hT.mono ?_; rintro e w7 ⟨er, out, A7, c7, HR, rfl, hI7, hb7⟩))
  have hI7 := hI7.since hb6'.size
  have Ba := Ba.ext hb7; have Bb := Bb.ext hb7
  have hS4 : S w7 := by rw [hSS.out]; exact ⟨Ba.cell 0, Bb.cell 0⟩
  have hb7' := ext_trans hb6' hb7
  have HS : Hid (OnlySay m l yes er out) := Lib.hid (by unfold OnlySay; rw [if_pos HEA.out, if_pos HEB.out]; exact HR.out.tells (only_vals HEA.out))
  refine hK.out _ _ ⟨fun _ => hS4, ?_⟩
  clear hK K hT hb7 hb6'
  refine WpN.takeD (i := 7) (v := ?_) rfl rfl (by kernel_rfl) (fun _ _ _ h => h) (Or.inl ⟨by rfl, ?_⟩) (by assumption) ?_
  rotate_left
  · intro w hSw; rw [hSS.out] at hSw; obtain ⟨sw0, sw1⟩ := hSw; go_simp; try with_reducible rfl
  try simp only [Act.put, List.setIfInBounds_toArray, List.set_cons_zero, List.set_cons_succ]
  refine WpN.takeD (i := 8) (v := ?_) rfl rfl (by kernel_rfl) (fun _ _ _ h => h) (Or.inl ⟨by rfl, ?_⟩) (by assumption) ?_
  rotate_left
  · intro w hSw; rw [hSS.out] at hSw; obtain ⟨sw0, sw1⟩ := hSw; go_simp; try with_reducible rfl
  try simp only [Act.put, List.setIfInBounds_toArray, List.set_cons_zero, List.set_cons_succ]
  refine WpN.takeD (i := 9) (v := ?_) rfl rfl (by kernel_rfl) (fun _ _ _ h => h) (Or.inl ⟨by rfl, ?_⟩) (by assumption) ?_
  rotate_left
  · intro w hSw; rw [hSS.out] at hSw; obtain ⟨sw0, sw1⟩ := hSw; go_simp; try with_reducible rfl
  try simp only [Act.put, List.setIfInBounds_toArray, List.set_cons_zero, List.set_cons_succ]
  refine WpN.one (i := 10) rfl (by kernel_rfl) fun K hK => ?_
  go_wp2_with fail
  refine hK.out _ _ ⟨fun h => absurd h (by decide), ?_⟩
  refine WpN.done (by kernel_rfl) ?_ _
  clear hK K hSS hS0 hS1 hS2 hS3 hS4
  go_wp2_with fail
  refine bodyPost_ret (v := .tuple #[.slice A7 out.length c7, .int .i64 er]) (by simp [results, Try.results37]) rfl ?_
  exact ⟨er, out, A7, c7, HS, rfl, hI7, hb7'⟩
theorem imapCut_any (A B : Option Addr) (c d : Nat) (m : List PieceD) (l : List IvlD) (w : World) (hA : PiecesAt w A c m) (hB : IvlsAt w B d l) :
    Calls Try.prog 17 #[.slice A m.length c, .slice B l.length d] w (MapOut (OnlySay m l false) w) := by
  have hC := mapOnly_any A B c d m l false w hA hB
  have m1 := hA.len
  have m2 := hB.len
  clear hA hB
  go_enter Try.func17, Try.ntmps17
  go_wp2_with fail
  refine hC.mono ?_
  rintro e w1 ⟨er, out, A1, c1, HR, rfl, hI, hb⟩
  clear hC
  go_wp2_with fail
  refine bodyPost_ret (v := .tuple #[.slice A1 out.length c1, .int .i64 er]) (by simp [results, Try.results17]) rfl ?_
  exact ⟨er, out, A1, c1, HR, rfl, hI, hb⟩
theorem imapKeep_any (A B : Option Addr) (c d : Nat) (m : List PieceD) (l : List IvlD) (w : World) (hA : PiecesAt w A c m) (hB : IvlsAt w B d l) :
    Calls Try.prog 18 #[.slice A m.length c, .slice B l.length d] w (MapOut (OnlySay m l true) w) := by
  have hC := mapOnly_any A B c d m l true w hA hB
  have m1 := hA.len
  have m2 := hB.len
  clear hA hB
  go_enter Try.func18, Try.ntmps18
  go_wp2_with fail
  refine hC.mono ?_
  rintro e w1 ⟨er, out, A1, c1, HR, rfl, hI, hb⟩
  clear hC
  go_wp2_with fail
  refine bodyPost_ret (v := .tuple #[.slice A1 out.length c1, .int .i64 er]) (by simp [results, Try.results18]) rfl ?_
  exact ⟨er, out, A1, c1, HR, rfl, hI, hb⟩
end Go.Proofs.Ytdpibehpmghghaa
