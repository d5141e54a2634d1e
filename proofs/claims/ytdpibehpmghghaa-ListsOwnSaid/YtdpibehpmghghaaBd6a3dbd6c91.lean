/- One text: Roomy. -/
import Derived.Laws.MakeOwn
import Derived.Test.YtdpibehpmghghaaBdbf1197d85f
import Derived.Test.YtdpibehpmghghaaBdb6f87b220f
import Derived.Test.YtdpibehpmghghaaBd2e067778f5
/- The walks of roomy, kept and spoil over intervals and pieces; of slices.Clone over pieces (printed by genroomy.py). -/
namespace Go.Proofs.Ytdpibehpmghghaa
open Go.RowKit Go.Shelf

theorem pieces_one (l : List PieceD) : ∀ u ∈ l.flatMap pieceC, u.oneCell' = true := fun u hu => by
  obtain ⟨x, _, hx⟩ := List.mem_flatMap.1 hu
  simp only [pieceC, List.mem_cons, List.not_mem_nil, or_false] at hx
  rcases hx with rfl | rfl | rfl <;> rfl
theorem PiecesAt.flat {w : World} {b off c : Nat} {l : List PieceD} (h : PiecesAt w (some ⟨b, off, none⟩) c l) : ∀ (j : Nat) u, (l.flatMap pieceC)[j]? = some u → w.cell? ⟨b, off + j, none⟩ = some u := fun j u hu => by
  have hj : j < l.length * 3 := by have := lt_of_get hu; rw [flat_length pieceC_len] at this; exact this
  obtain ⟨x, hx⟩ := get_lt (show j / 3 < l.length by omega)
  obtain ⟨b', off', e, _, h0, h1, h2⟩ := h.get hx
  obtain ⟨rfl, rfl⟩ : b = b' ∧ off = off' := by simpa using e
  have h4 := flat_at pieceC_len hx (Nat.mod_lt j (show 0 < 3 by decide))
  rw [Nat.div_add_mod' j 3, hu] at h4
  have hd := Nat.div_add_mod' j 3
  have hm3 : j % 3 = 0 ∨ j % 3 = 1 ∨ j % 3 = 2 := by omega
  rcases hm3 with hm | hm | hm
  · rw [hm] at h4
    have e1 : j / 3 * 3 = j := by omega
    rw [e1] at h0
    rw [h0, h4]
    rfl
  · rw [hm] at h4
    have e1 : off + j / 3 * 3 + 1 = off + j := by omega
    rw [e1] at h1
    rw [h1, h4]
    rfl
  · rw [hm] at h4
    have e1 : off + j / 3 * 3 + 2 = off + j := by omega
    rw [e1] at h2
    rw [h2, h4]
    rfl
/-- Where a list lies, as an append reads it. -/
def FromAt (w : World) (A : Option Addr) (news : List Value) : Prop := (A = none → news = []) ∧ ∀ ad, A = some ad → ∀ (j : Nat) u, news[j]? = some u → w.cell? (ad.add j) = some u
theorem IvlsAt.from {w : World} {A : Option Addr} {c : Nat} {l : List IvlD} (h : IvlsAt w A c l) : FromAt w A (l.flatMap ivlC) := by
  cases l with
  | nil => exact ⟨fun _ => rfl, fun ad _ j u hu => by simp at hu⟩
  | cons y l =>
    obtain ⟨b, off, e, _⟩ := h.get (k := 0) (x := y) rfl
    subst e
    refine ⟨fun e => by simp at e, fun ad hd j u hu => ?_⟩
    obtain rfl : (⟨b, off, none⟩ : Addr) = ad := by simpa using hd
    rw [Go.WideShapes.add_plain]
    exact h.flat j u hu
theorem PiecesAt.from {w : World} {A : Option Addr} {c : Nat} {l : List PieceD} (h : PiecesAt w A c l) : FromAt w A (l.flatMap pieceC) := by
  cases l with
  | nil => exact ⟨fun _ => rfl, fun ad _ j u hu => by simp at hu⟩
  | cons y l =>
    obtain ⟨b, off, e, _⟩ := h.get (k := 0) (x := y) rfl
    subst e
    refine ⟨fun e => by simp at e, fun ad hd j u hu => ?_⟩
    obtain rfl : (⟨b, off, none⟩ : Addr) = ad := by simpa using hd
    rw [Go.WideShapes.add_plain]
    exact h.flat j u hu
theorem IvlsAt.room {w : World} {A : Option Addr} {c : Nat} {l : List IvlD} (h : IvlsAt w A c l) : l.length ≤ maxLen := Nat.le_trans h.lc h.cm
theorem PiecesAt.room {w : World} {A : Option Addr} {c : Nat} {l : List PieceD} (h : PiecesAt w A c l) : l.length ≤ maxLen := Nat.le_trans h.lc h.cm
theorem Own.lit2 {α : Type} {enc : α → List Value} {sz : Nat} {w : World} {base g : Nat} {e : TypeId} {cs : Array Value} {l : List α} {m : Nat} (hB : Blk w g e cs) (hb : base ≤ g) (hl : l.length = m) (hcs : cs.toList = l.flatMap enc) (hsz : cs.size = m * sz) (hm : m ≤ maxLen) :
    Own enc sz w base e (.slice (some ⟨g, 0, none⟩) m m) l := by
  subst hl
  exact ⟨by rw [← hcs, Array.length_toList, hsz], .inr ⟨g, l.length, cs, rfl, hb, hB, Nat.le_refl _, hm, hsz, by rw [← hcs]; rw [List.take_of_length_le]; rw [Array.length_toList]; omega⟩⟩
/-- A list that lies somewhere is put behind an own one. -/
theorem wp_append_from {P : Program} {o : Oper} {a : Act} {K : Act → World → Prop} {Q : Exit → Act → World → Prop} {w : World} {α : Type} {enc : α → List Value} (s x : Operand) (t : TypeId)
    (ho : o.op = .call { callee := .builtin .append, args := #[s, x], argTypes := #[t, t] })
    (base : Nat) (e : TypeId) (i : TypeInfo) (z : Value) (size bytes : Nat) (ht : P.underlying t = some (.slice e)) (hi : P.info? e = some i) (hz : i.zero = some z)
    (hsize : i.size = size) (hby : i.bytes = bytes) (hzs : z.cells.size = size) (hsz : 0 < size)
    (v : Value) (l l2 : List α) (hs : a.eval s = v) (hown : Own enc size w base e v l) (A : Option Addr) (m c : Nat) (hx : a.eval x = .slice A m c) (hm : l2.length = m) (hr : l2.length ≤ maxLen) (hF : FromAt w A (l2.flatMap enc)) (h1 : ∀ u ∈ l2.flatMap enc, u.oneCell' = true)
    (hk : ∀ x, (enc x).length = size) (h63 : l.length + l2.length ≤ 1000000) (hby2 : bytes ≤ 1000) (hbase : base ≤ w.heap.size)
    (h : ∀ v' w', Own enc size w' base e v' (l ++ l2) → Below base w w' → (∀ b t' cs, Blk w b t' cs → some b ≠ v.ownBlock → Blk w' b t' cs) → K (a.put o.dst v') w') : Oper.wp P o a w K Q := by
  have hb2 : (l.length + m) * bytes ≤ 140737488355328 := Nat.le_trans (Nat.mul_le_mul (show l.length + m ≤ 1000000 by omega) hby2) (by decide)
  cases A with
  | none =>
    have e3 := hF.1 rfl
    have e2 : l2 = [] := by
      cases l2 with
      | nil => rfl
      | cons y l2 =>
        have h9 := congrArg List.length e3
        rw [List.flatMap_cons, List.length_append, hk] at h9
        simp at h9
        omega
    subst e2
    obtain rfl : 0 = m := hm
    obtain ⟨A, c9, rfl⟩ := hown.form
    have hr := run_append_nothing (P := P) w t e o.type i ht hi A l.length c9 c hown.room.1
    unfold Oper.wp execOp
    simp only [ho, resolve, invoke, builtin, Sem.run_bind, Sem.run_pure, Result.andThen_ok, List.map_toArray, List.map_cons, List.map_nil, hs, hx, hr]
    exact h _ _ (by rw [List.append_nil]; exact hown) (Below.refl _ _) (fun _ _ _ hb _ => hb)
  | some ad =>
    have h9 : l.length + m ≤ maxLen := Nat.le_trans (by omega : l.length + m ≤ 1000000) (by decide)
    obtain ⟨v', w', hr, k2, k3, _, _⟩ := run_append_own_at (P := P) w base t o.type e i z size bytes ht hi hz hsize hby hzs hsz v l.length (l.flatMap enc) hown ad m c (l2.flatMap enc) (by rw [flat_length hk, hm]) (hF.2 ad rfl) h1 h9 hb2 hbase
    unfold Oper.wp execOp
    simp only [ho, resolve, invoke, builtin, Sem.run_bind, Sem.run_pure, Result.andThen_ok, List.map_toArray, List.map_cons, List.map_nil, hs, hx, hr]
    refine h _ _ ?_ ((Below.refl base w).grown k3 hbase fun k hk => (World.ownsRow.lt hown k hk).1) (fun b t' cs hb hn => hb.grown k3 hn)
    unfold Own
    rw [List.flatMap_append, List.length_append, hm]
    exact k2

/-! ### roomy, ivl -/
/-- A list is told with room behind it that is filled, in a block of its own. -/
def RoomyOutivl (l : List IvlD) (f : IvlD) (w : World) (e : Ending) (w' : World) : Prop := ∃ g c, e = .returned (.slice (some ⟨g, 0, none⟩) l.length c) ∧ l.length + 2 ≤ c ∧ c ≤ maxLen ∧ IvlsAt w' (some ⟨g, 0, none⟩) c (l ++ [f, f]) ∧ Below w.heap.size w w'
set_option maxRecDepth 100000 in
set_option maxHeartbeats 8000000 in
theorem roomy_ivl (A : Option Addr) (c : Nat) (l : List IvlD) (f : IvlD) (w : World) (hI : IvlsAt w A c l) (hl : l.length ≤ 100000) (hf : I64 f.f ∧ I64 f.t) :
    Calls Try.prog 6 #[.slice A l.length c, ivlV f] w (RoomyOutivl l f w) := by
  obtain ⟨i0, hi, hz0, hz1, hz2⟩ := info_ivl2
  have HI := Lib.hid hI
  have HL := Lib.hid hl
  have HF := Lib.hid hf
  have hm9 := hI.len
  have hjw : IntKind.i64.wrap ((l.length : Int) + 3) = (l.length : Int) + 3 := IntWalk.i64_in _ (by omega)
  have HMK := Lib.hid (fun (base : Nat) (W : World) (hb : base ≤ W.heap.size) => run_make_own (P := Try.prog) W base 22 29 i0 _ 2 Try.underlying22 hi hz0 hz1 .i64 .i64 (l.length + 3) (by rw [hz2]; omega) (by unfold maxLen; omega) hb)
  clear hI hl hf
  go_enter Try.func6, Try.ntmps6
  go_wp2_with fail
  obtain ⟨w2, hw2⟩ : ∃ x, x = w.alloc (Obj.cells #[.int .i64 f.f, .int .i64 f.t] 29) := ⟨_, rfl⟩
  have Bf : Blk w2 w.heap.size 29 #[.int .i64 f.f, .int .i64 f.t] := by rw [hw2]; exact Blk.new _ _ _
  have hb0 : Below w.heap.size w w2 := by rw [hw2]; exact ext_alloc (Below.refl _ w) _
  rw [← hw2]
  clear hw2
  obtain ⟨S, hSS⟩ : ∃ S : World → Prop, Hid (S = fun w' => w'.cell? ⟨w.heap.size, 0, none⟩ = some (.int .i64 f.f) ∧ w'.cell? ⟨w.heap.size, 1, none⟩ = some (.int .i64 f.t)) := ⟨_, Lib.hid rfl⟩
  have Bf := Bf.drew
  have hS0 : S w2.drew := by rw [hSS.out]; exact ⟨Bf.cell 0, Bf.cell 1⟩
  have hb2 := below_drew hb0
  clear hb0
  have hzw2 := hb2.size
  refine WpN.begin (S := S) 10 (by kernel_rfl) ?_
  refine WpN.takeD (i := 0) (v := ?_) rfl rfl (by kernel_rfl) (fun _ _ _ h => h) (Or.inl ⟨by rfl, ?_⟩) (by assumption) ?_
  rotate_left
  · intro w hSw; rw [hSS.out] at hSw; obtain ⟨sw0, sw1⟩ := hSw; go_simp; try with_reducible rfl
  try simp only [Act.put, List.setIfInBounds_toArray, List.set_cons_zero, List.set_cons_succ]
  refine WpN.takeD (i := 1) (v := ?_) rfl rfl (by kernel_rfl) (fun _ _ _ h => h) (Or.inl ⟨by rfl, ?_⟩) (by assumption) ?_
  rotate_left
  · intro w hSw; rw [hSS.out] at hSw; obtain ⟨sw0, sw1⟩ := hSw; go_simp; try with_reducible rfl
  try simp only [Act.put, List.setIfInBounds_toArray, List.set_cons_zero, List.set_cons_succ]
  refine WpN.takeD (i := 2) (v := ?_) rfl rfl (by kernel_rfl) (fun _ _ _ h => h) (Or.inl ⟨by rfl, ?_⟩) (by assumption) ?_
  rotate_left
  · intro w hSw; rw [hSS.out] at hSw; obtain ⟨sw0, sw1⟩ := hSw; go_simp; try with_reducible rfl
  try simp only [Act.put, List.setIfInBounds_toArray, List.set_cons_zero, List.set_cons_succ]
  refine WpN.takeD (i := 4) (v := ?_) rfl rfl (by kernel_rfl) (fun _ _ _ h => h) (Or.inl ⟨by rfl, ?_⟩) (by assumption) ?_
  rotate_left
  · intro w hSw; rw [hSS.out] at hSw; obtain ⟨sw0, sw1⟩ := hSw; go_simp; try with_reducible rfl
  try simp only [Act.put, List.setIfInBounds_toArray, List.set_cons_zero, List.set_cons_succ]
  refine WpN.takeD (i := 6) (v := ?_) rfl rfl (by kernel_rfl) (fun _ _ _ h => h) (Or.inl ⟨by rfl, ?_⟩) (by assumption) ?_
  rotate_left
  · intro w hSw; rw [hSS.out] at hSw; obtain ⟨sw0, sw1⟩ := hSw; go_simp; try with_reducible rfl
  try simp only [Act.put, List.setIfInBounds_toArray, List.set_cons_zero, List.set_cons_succ]
  refine WpN.takeD (i := 7) (v := ?_) rfl rfl (by kernel_rfl) (fun _ _ _ h => h) (Or.inl ⟨by rfl, ?_⟩) (by assumption) ?_
  rotate_left
  · intro w hSw; rw [hSS.out] at hSw; obtain ⟨sw0, sw1⟩ := hSw; go_simp; try with_reducible rfl
  try simp only [Act.put, List.setIfInBounds_toArray, List.set_cons_zero, List.set_cons_succ]
  have HB2 : Hid (w.heap.size < w2.drew.heap.size) := Lib.hid Bf.lt
  have key : ∀ (W3 : World) (v3 : Value) (Wx : World), True := fun _ _ _ => trivial
  clear key
  refine WpN.two (i := 3) (j := 8) rfl rfl (by kernel_rfl) (fun K hK => ?_) (fun K hK => ?_)
  · obtain ⟨w3, hr3, hO3, hg3⟩ := HMK.out w2.drew.heap.size w2.drew (Nat.le_refl _)
    have hr3 : (Instr.makeSlice 22 (.int .i64 0) (.int .i64 ((l.length : Int) + 3))).run Try.prog w2.drew = .ok (.slice (some ⟨w2.heap.size, 0, none⟩) 0 (l.length + 3)) w3 := hr3
    have hO3 : Own ivlC 2 w3 w2.drew.heap.size 29 (.slice (some ⟨w2.drew.heap.size, 0, none⟩) 0 (l.length + 3)) [] := hO3
    have hb3 : Below w2.drew.heap.size w2.drew w3 := (Below.refl _ w2.drew).grown hg3 (Nat.le_refl _) (fun k hk => by cases hk)
    go_wp2_with fail
    have Bf3 := Bf.ext hb3
    have hS3 : S w3 := by rw [hSS.out]; exact ⟨Bf3.cell 0, Bf3.cell 1⟩
    refine hK.out _ _ ⟨fun _ => hS3, ?_⟩
    clear hK K hr3 hg3
    refine WpN.two (i := 5) (j := 8) rfl rfl (by kernel_rfl) (fun K hK => ?_) (fun K hK => ?_)
    · refine wp_append_from (enc := ivlC) (.tmp 9) (.tmp 10) 22 rfl w2.drew.heap.size 29 i0 _ 2 16 Try.underlying22 hi hz0 hz1 hz2 rfl (by decide) _ [] l rfl hO3 A l.length c rfl rfl ((HI.out.ext hb2).ext hb3).room ((HI.out.ext hb2).ext hb3).from (ivls_one l) ivlC_len (by simp; have := HL.out; omega) (by decide) hb3.size ?_
      intro v4 w4 hO4 hb4 _
      rw [List.nil_append] at hO4
      have Bf4 := Bf3.below hb4 HB2.out
      have hS4 : S w4 := by rw [hSS.out]; exact ⟨Bf4.cell 0, Bf4.cell 1⟩
      refine hK.out _ _ ⟨fun _ => hS4, ?_⟩
      clear hK K
      refine WpN.one (i := 8) rfl (by kernel_rfl) fun K hK => ?_
      go_wp2_with fail
      have O5 : Own ivlC 2 (w4.alloc (Obj.cells #[.int .i64 f.f, .int .i64 f.t, .int .i64 f.f, .int .i64 f.t] 29)) w4.heap.size 29 (.slice (some ⟨w4.heap.size, 0, none⟩) 2 2) [f, f] := Own.lit rfl (Nat.le_refl _) rfl rfl rfl (by decide)
      have hbl := ext_alloc (Below.refl _ w4) (Obj.cells #[.int .i64 f.f, .int .i64 f.t, .int .i64 f.f, .int .i64 f.t] 29)
      have Bf5 := Bf4.ext hbl
      have hS5 : S (w4.alloc (Obj.cells #[.int .i64 f.f, .int .i64 f.t, .int .i64 f.f, .int .i64 f.t] 29)) := by rw [hSS.out]; exact ⟨Bf5.cell 0, Bf5.cell 1⟩
      have hO4 := hO4.ext hbl
      have hz4 : w2.drew.heap.size ≤ w4.heap.size := Nat.le_trans hb3.size hb4.size
      have hb5 : Below w2.drew.heap.size w2.drew (w4.alloc (Obj.cells #[.int .i64 f.f, .int .i64 f.t, .int .i64 f.f, .int .i64 f.t] 29)) := (hb3.trans hb4).trans (hbl.mono hz4)
      refine hK.out _ _ ⟨fun _ => hS5, ?_⟩
      clear hK K hbl
      refine WpN.one (i := 9) rfl (by kernel_rfl) fun K hK => ?_
      refine wp_append_two (enc := ivlC) (.tmp 11) (.tmp 14) 22 rfl w2.drew.heap.size w4.heap.size 29 i0 _ 2 16 Try.underlying22 hi hz0 hz1 hz2 rfl (by decide) v4 _ l [f, f] rfl rfl hO4 O5 (ivls_one _) (by simp; have := HL.out; omega) (by decide) hb5.size ?_
      intro v6 w6 O6 hb6
      have Bf6 := Bf5.below hb6 HB2.out
      have hS6 : S w6 := by rw [hSS.out]; exact ⟨Bf6.cell 0, Bf6.cell 1⟩
      refine hK.out _ _ ⟨fun _ => hS6, ?_⟩
      clear hK K
      have hb7 : Below w.heap.size w w6 := ext_trans hb2 (hb5.trans hb6)
      have HQ : Hid ((l ++ [f, f]).length = l.length + 2) := Lib.hid (by simp)
      obtain ⟨A6, c6, rfl, hN6⟩ := own_ivls O6 (fun x hx => by
        rcases List.mem_append.1 hx with hx | hx
        · obtain ⟨k, hk⟩ := List.getElem?_of_mem hx
          exact HI.out.i64 hk
        · rw [show x = f by simpa using hx]; exact HF.out)
      obtain ⟨g6, rfl⟩ : ∃ g, A6 = some ⟨g, 0, none⟩ := by
        rcases O6.2 with ⟨h1, h2⟩ | ⟨g, cap, cur, hv, _⟩
        · rw [HQ.out] at h2; omega
        · simp only [Value.slice.injEq] at hv
          exact ⟨g, hv.1⟩
      rw [HQ.out]
      have HN6 := Lib.hid hN6.toIvlsAt
      have hlc := hN6.lc
      have hcm : c6 ≤ 9223372036854775807 := hN6.cm
      rw [HQ.out] at hlc
      have hln : l.length ≤ l.length + 2 := by omega
      have hlc2 : l.length ≤ c6 := by omega
      have HB7 := Lib.hid hb7
      clear O6 hN6 hO4 O5 hb5 hb6 Bf6 Bf5 hS5 hS6 hb7 hb2 HQ
      refine WpN.one (i := 10) rfl (by kernel_rfl) fun K hK => ?_
      go_wp2_with fail
      refine hK.out _ _ ⟨fun h => absurd h (by decide), ?_⟩
      refine WpN.done (by kernel_rfl) ?_ _
      clear hK K
      go_wp2_with fail
      refine bodyPost_ret (v := .slice (some ⟨g6, 0, none⟩) l.length c6) (by simp [results, Try.results6]) rfl ?_
      exact ⟨g6, c6, rfl, hlc, hcm, HN6.out, HB7.out⟩
    · go_wp2_with fail
      have O5 : Own ivlC 2 (w3.alloc (Obj.cells #[.int .i64 f.f, .int .i64 f.t, .int .i64 f.f, .int .i64 f.t] 29)) w3.heap.size 29 (.slice (some ⟨w3.heap.size, 0, none⟩) 2 2) [f, f] := Own.lit rfl (Nat.le_refl _) rfl rfl rfl (by decide)
      have hbl := ext_alloc (Below.refl _ w3) (Obj.cells #[.int .i64 f.f, .int .i64 f.t, .int .i64 f.f, .int .i64 f.t] 29)
      have hL5 : Blk (w3.alloc (Obj.cells #[.int .i64 f.f, .int .i64 f.t, .int .i64 f.f, .int .i64 f.t] 29)) w3.heap.size 29 #[.int .i64 f.f, .int .i64 f.t, .int .i64 f.f, .int .i64 f.t] := Blk.new _ _ _
      have Bf5 := Bf3.ext hbl
      have hS5 : S (w3.alloc (Obj.cells #[.int .i64 f.f, .int .i64 f.t, .int .i64 f.f, .int .i64 f.t] 29)) := by rw [hSS.out]; exact ⟨Bf5.cell 0, Bf5.cell 1⟩
      have hne : some w3.heap.size ≠ (Value.slice (some ⟨w2.drew.heap.size, 0, none⟩) 0 (l.length + 3)).ownBlock := hO3.block_lt (Nat.le_refl _)
      have hO3 := hO3.ext hbl
      have hb5 : Below w2.drew.heap.size w2.drew (w3.alloc (Obj.cells #[.int .i64 f.f, .int .i64 f.t, .int .i64 f.f, .int .i64 f.t] 29)) := hb3.trans (hbl.mono hb3.size)
      refine hK.out _ _ ⟨fun _ => hS5, ?_⟩
      clear hK K hbl
      refine WpN.one (i := 5) rfl (by kernel_rfl) fun K hK => ?_
      have HIW := HI.out.ext (ext_trans hb2 hb5)
      refine wp_append_from (enc := ivlC) (.tmp 9) (.tmp 10) 22 rfl w2.drew.heap.size 29 i0 _ 2 16 Try.underlying22 hi hz0 hz1 hz2 rfl (by decide) _ [] l rfl hO3 A l.length c rfl rfl HIW.room HIW.from (ivls_one l) ivlC_len (by simp; have := HL.out; omega) (by decide) hb5.size ?_
      intro v4 w4 hO4 hb4 hfar
      rw [List.nil_append] at hO4
      have Bf5 := Bf5.below hb4 HB2.out
      have hS4 : S w4 := by rw [hSS.out]; exact ⟨Bf5.cell 0, Bf5.cell 1⟩
      have O5 : Own ivlC 2 w4 w3.heap.size 29 (.slice (some ⟨w3.heap.size, 0, none⟩) 2 2) [f, f] := Own.lit2 (hfar _ _ _ hL5 hne) (Nat.le_refl _) rfl rfl rfl (by decide)
      have hb5 := hb5.trans hb4
      refine hK.out _ _ ⟨fun _ => hS4, ?_⟩
      clear hK K hb4 hfar hL5
      refine WpN.one (i := 9) rfl (by kernel_rfl) fun K hK => ?_
      refine wp_append_two (enc := ivlC) (.tmp 11) (.tmp 14) 22 rfl w2.drew.heap.size w3.heap.size 29 i0 _ 2 16 Try.underlying22 hi hz0 hz1 hz2 rfl (by decide) v4 _ l [f, f] rfl rfl hO4 O5 (ivls_one _) (by simp; have := HL.out; omega) (by decide) hb5.size ?_
      intro v6 w6 O6 hb6
      have Bf6 := Bf5.below hb6 HB2.out
      have hS6 : S w6 := by rw [hSS.out]; exact ⟨Bf6.cell 0, Bf6.cell 1⟩
      refine hK.out _ _ ⟨fun _ => hS6, ?_⟩
      clear hK K
      have hb7 : Below w.heap.size w w6 := ext_trans hb2 (hb5.trans hb6)
      have HQ : Hid ((l ++ [f, f]).length = l.length + 2) := Lib.hid (by simp)
      obtain ⟨A6, c6, rfl, hN6⟩ := own_ivls O6 (fun x hx => by
        rcases List.mem_append.1 hx with hx | hx
        · obtain ⟨k, hk⟩ := List.getElem?_of_mem hx
          exact HI.out.i64 hk
        · rw [show x = f by simpa using hx]; exact HF.out)
      obtain ⟨g6, rfl⟩ : ∃ g, A6 = some ⟨g, 0, none⟩ := by
        rcases O6.2 with ⟨h1, h2⟩ | ⟨g, cap, cur, hv, _⟩
        · rw [HQ.out] at h2; omega
        · simp only [Value.slice.injEq] at hv
          exact ⟨g, hv.1⟩
      rw [HQ.out]
      have HN6 := Lib.hid hN6.toIvlsAt
      have hlc := hN6.lc
      have hcm : c6 ≤ 9223372036854775807 := hN6.cm
      rw [HQ.out] at hlc
      have hln : l.length ≤ l.length + 2 := by omega
      have hlc2 : l.length ≤ c6 := by omega
      have HB7 := Lib.hid hb7
      clear O6 hN6 hO4 O5 hb5 hb6 Bf6 Bf5 hS5 hS6 hb7 hb2 HQ
      refine WpN.one (i := 10) rfl (by kernel_rfl) fun K hK => ?_
      go_wp2_with fail
      refine hK.out _ _ ⟨fun h => absurd h (by decide), ?_⟩
      refine WpN.done (by kernel_rfl) ?_ _
      clear hK K
      go_wp2_with fail
      refine bodyPost_ret (v := .slice (some ⟨g6, 0, none⟩) l.length c6) (by simp [results, Try.results6]) rfl ?_
      exact ⟨g6, c6, rfl, hlc, hcm, HN6.out, HB7.out⟩
  · go_wp2_with fail
    have O5 : Own ivlC 2 (w2.alloc (Obj.cells #[.int .i64 f.f, .int .i64 f.t, .int .i64 f.f, .int .i64 f.t] 29)).drew w2.drew.heap.size 29 (.slice (some ⟨w2.drew.heap.size, 0, none⟩) 2 2) [f, f] := (show Own ivlC 2 (w2.alloc (Obj.cells #[.int .i64 f.f, .int .i64 f.t, .int .i64 f.f, .int .i64 f.t] 29)) w2.heap.size 29 (.slice (some ⟨w2.heap.size, 0, none⟩) 2 2) [f, f] from Own.lit rfl (Nat.le_refl _) rfl rfl rfl (by decide))
    have hL5 : Blk (w2.alloc (Obj.cells #[.int .i64 f.f, .int .i64 f.t, .int .i64 f.f, .int .i64 f.t] 29)).drew w2.drew.heap.size 29 #[.int .i64 f.f, .int .i64 f.t, .int .i64 f.f, .int .i64 f.t] := (Blk.new w2 _ _).drew
    have hbl : Below w2.drew.heap.size w2.drew (w2.alloc (Obj.cells #[.int .i64 f.f, .int .i64 f.t, .int .i64 f.f, .int .i64 f.t] 29)).drew := ext_alloc (Below.refl _ w2.drew) (Obj.cells #[.int .i64 f.f, .int .i64 f.t, .int .i64 f.f, .int .i64 f.t] 29)
    have Bf5 := Bf.ext hbl
    have hS5 : S (w2.alloc (Obj.cells #[.int .i64 f.f, .int .i64 f.t, .int .i64 f.f, .int .i64 f.t] 29)).drew := by rw [hSS.out]; exact ⟨Bf5.cell 0, Bf5.cell 1⟩
    refine hK.out _ _ ⟨fun _ => hS5, ?_⟩
    clear hK K
    refine WpN.one (i := 3) rfl (by kernel_rfl) fun K hK => ?_
    obtain ⟨w3, hr3, hO3, hg3⟩ := HMK.out w2.drew.heap.size (w2.alloc (Obj.cells #[.int .i64 f.f, .int .i64 f.t, .int .i64 f.f, .int .i64 f.t] 29)).drew hbl.size
    have hO3 : Own ivlC 2 w3 w2.drew.heap.size 29 (.slice (some ⟨(w2.alloc (Obj.cells #[.int .i64 f.f, .int .i64 f.t, .int .i64 f.f, .int .i64 f.t] 29)).drew.heap.size, 0, none⟩) 0 (l.length + 3)) [] := hO3
    have hr3 : (Instr.makeSlice 22 (.int .i64 0) (.int .i64 ((l.length : Int) + 3))).run Try.prog (w2.alloc (Obj.cells #[.int .i64 f.f, .int .i64 f.t, .int .i64 f.f, .int .i64 f.t] 29)).drew = .ok (.slice (some ⟨w2.heap.size + 1, 0, none⟩) 0 (l.length + 3)) w3 := by rw [show (w2.heap.size + 1) = (w2.alloc (Obj.cells #[.int .i64 f.f, .int .i64 f.t, .int .i64 f.f, .int .i64 f.t] 29)).heap.size by simp]; exact hr3
    have hb3 : Below (w2.alloc (Obj.cells #[.int .i64 f.f, .int .i64 f.t, .int .i64 f.f, .int .i64 f.t] 29)).drew.heap.size (w2.alloc (Obj.cells #[.int .i64 f.f, .int .i64 f.t, .int .i64 f.f, .int .i64 f.t] 29)).drew w3 := (Below.refl _ _).grown hg3 (Nat.le_refl _) (fun k hk => by cases hk)
    go_wp2_with fail
    have Bf5 := Bf5.ext hb3
    have hS6 : S w3 := by rw [hSS.out]; exact ⟨Bf5.cell 0, Bf5.cell 1⟩
    have hL5 := hL5.ext hb3
    have O5 := O5.ext hb3
    have hb5 : Below w2.drew.heap.size w2.drew w3 := ext_trans hbl hb3
    refine hK.out _ _ ⟨fun _ => hS6, ?_⟩
    clear hK K hr3 hg3 hbl
    rw [show (w2.alloc (Obj.cells #[.int .i64 f.f, .int .i64 f.t, .int .i64 f.f, .int .i64 f.t] 29)).drew.heap.size = w2.heap.size + 1 by simp] at hO3
    have hne : some w2.drew.heap.size ≠ (Value.slice (some ⟨w2.heap.size + 1, 0, none⟩) 0 (l.length + 3)).ownBlock := fun h => by have h9 : w2.heap.size = w2.heap.size + 1 := Option.some.inj h; omega
    refine WpN.one (i := 5) rfl (by kernel_rfl) fun K hK => ?_
    have HIW := HI.out.ext (ext_trans hb2 hb5)
    refine wp_append_from (enc := ivlC) (.tmp 9) (.tmp 10) 22 rfl w2.drew.heap.size 29 i0 _ 2 16 Try.underlying22 hi hz0 hz1 hz2 rfl (by decide) _ [] l rfl hO3 A l.length c rfl rfl HIW.room HIW.from (ivls_one l) ivlC_len (by simp; have := HL.out; omega) (by decide) hb5.size ?_
    intro v4 w4 hO4 hb4 hfar
    rw [List.nil_append] at hO4
    have Bf5 := Bf5.below hb4 HB2.out
    have hS4 : S w4 := by rw [hSS.out]; exact ⟨Bf5.cell 0, Bf5.cell 1⟩
    have O5 : Own ivlC 2 w4 w2.drew.heap.size 29 (.slice (some ⟨w2.drew.heap.size, 0, none⟩) 2 2) [f, f] := Own.lit2 (hfar _ _ _ hL5 hne) (Nat.le_refl _) rfl rfl rfl (by decide)
    have hb5 := hb5.trans hb4
    refine hK.out _ _ ⟨fun _ => hS4, ?_⟩
    clear hK K hb4 hfar hL5
    refine WpN.one (i := 9) rfl (by kernel_rfl) fun K hK => ?_
    refine wp_append_two (enc := ivlC) (.tmp 11) (.tmp 14) 22 rfl w2.drew.heap.size w2.drew.heap.size 29 i0 _ 2 16 Try.underlying22 hi hz0 hz1 hz2 rfl (by decide) v4 _ l [f, f] rfl rfl hO4 O5 (ivls_one _) (by simp; have := HL.out; omega) (by decide) hb5.size ?_
    intro v6 w6 O6 hb6
    have Bf6 := Bf5.below hb6 HB2.out
    have hS6 : S w6 := by rw [hSS.out]; exact ⟨Bf6.cell 0, Bf6.cell 1⟩
    refine hK.out _ _ ⟨fun _ => hS6, ?_⟩
    clear hK K
    have hb7 : Below w.heap.size w w6 := ext_trans hb2 (hb5.trans hb6)
    have HQ : Hid ((l ++ [f, f]).length = l.length + 2) := Lib.hid (by simp)
    obtain ⟨A6, c6, rfl, hN6⟩ := own_ivls O6 (fun x hx => by
      rcases List.mem_append.1 hx with hx | hx
      · obtain ⟨k, hk⟩ := List.getElem?_of_mem hx
        exact HI.out.i64 hk
      · rw [show x = f by simpa using hx]; exact HF.out)
    obtain ⟨g6, rfl⟩ : ∃ g, A6 = some ⟨g, 0, none⟩ := by
      rcases O6.2 with ⟨h1, h2⟩ | ⟨g, cap, cur, hv, _⟩
      · rw [HQ.out] at h2; omega
      · simp only [Value.slice.injEq] at hv
        exact ⟨g, hv.1⟩
    rw [HQ.out]
    have HN6 := Lib.hid hN6.toIvlsAt
    have hlc := hN6.lc
    have hcm : c6 ≤ 9223372036854775807 := hN6.cm
    rw [HQ.out] at hlc
    have hln : l.length ≤ l.length + 2 := by omega
    have hlc2 : l.length ≤ c6 := by omega
    have HB7 := Lib.hid hb7
    clear O6 hN6 hO4 O5 hb5 hb6 Bf6 Bf5 hS5 hS6 hb7 hb2 HQ
    refine WpN.one (i := 10) rfl (by kernel_rfl) fun K hK => ?_
    go_wp2_with fail
    refine hK.out _ _ ⟨fun h => absurd h (by decide), ?_⟩
    refine WpN.done (by kernel_rfl) ?_ _
    clear hK K
    go_wp2_with fail
    refine bodyPost_ret (v := .slice (some ⟨g6, 0, none⟩) l.length c6) (by simp [results, Try.results6]) rfl ?_
    exact ⟨g6, c6, rfl, hlc, hcm, HN6.out, HB7.out⟩

/-! ### kept, ivl -/
set_option maxRecDepth 100000 in
set_option maxHeartbeats 4000000 in
theorem kept_ivl (g c : Nat) (l : List IvlD) (f : IvlD) (w : World) (hI : IvlsAt w (some ⟨g, 0, none⟩) c (l ++ [f, f])) :
    Calls Try.prog 24 #[.slice (some ⟨g, 0, none⟩) l.length c, ivlV f] w fun e w' => e = .returned (.bool true) ∧ Below w.heap.size w w' := by
  have hlc := hI.lc
  have hcm : c ≤ 9223372036854775807 := hI.cm
  rw [List.length_append] at hlc
  have hlc : l.length + 2 ≤ c := hlc
  have hI := hI.ext (ext_alloc (Below.refl _ w) (Obj.cells #[.int .i64 f.f, .int .i64 f.t] 29))
  obtain ⟨b, off, e1, hb1, x0, x1⟩ := hI.get (k := l.length) (x := f) (by simp)
  obtain ⟨rfl, rfl⟩ : g = b ∧ 0 = off := by simpa using e1
  obtain ⟨b, off, e2, hb2, y0, y1⟩ := hI.get (k := l.length + 1) (x := f) (by simp)
  obtain ⟨rfl, rfl⟩ : g = b ∧ 0 = off := by simpa using e2
  rw [Nat.zero_add] at x0 x1 y0 y1
  have hjw : IntKind.i64.wrap ((l.length : Int) + 2) = (l.length : Int) + 2 := IntWalk.i64_in _ (by omega)
  have hjw1 : IntKind.i64.wrap ((l.length : Int) + 1) = (l.length : Int) + 1 := IntWalk.i64_in _ (by omega)
  have hq := same_ivl f f
  rw [show decide (f = f) = true by simp] at hq
  have h1 : l.length < l.length + 2 := by omega
  have h2 : l.length + 1 < l.length + 2 := by omega
  have h0 : (0 : Int) ≤ (l.length : Int) + 2 := by omega
  have h3 : (l.length : Int) + 2 ≤ c := by omega
  have h4 : (0 : Int) ≤ (l.length : Int) + 1 := by omega
  have h5 : (l.length : Int) + 1 < (l.length : Int) + 2 := by omega
  have h6 : (l.length : Int) < (l.length : Int) + 2 := by omega
  have hn2 : ((l.length : Int) + 2).toNat = l.length + 2 := by omega
  have hn1 : ((l.length : Int) + 1).toNat = l.length + 1 := by omega
  clear hI e1 e2
  go_enter Try.func24, Try.ntmps24
  go_wp2_with fail
  go_quiet (fail)
  go_wp2_with fail
  go_ret
  exact ⟨rfl, below_drewN (ext_alloc (Below.refl _ w) _) _⟩

/-! ### spoil, ivl -/
set_option maxRecDepth 100000 in
set_option maxHeartbeats 4000000 in
theorem spoil_ivl (A : Option Addr) (c n base : Nat) (l : List IvlD) (f : IvlD) (w : World) (hO : Own ivlC 2 w base 29 (.slice A n c) l) (hbase : base ≤ w.heap.size) :
    Calls Try.prog 15 #[.slice A n c, ivlV f] w fun e w' => e = .returned (.tuple #[]) ∧ Below base w w' := by
  obtain ⟨Ao, co, hv⟩ := hO.form
  obtain ⟨rfl, rfl, rfl⟩ : A = Ao ∧ n = l.length ∧ c = co := by simpa using hv
  clear hv
  have hb0 := (Below.refl base w).alloc hbase (Obj.cells #[.int .i64 f.f, .int .i64 f.t] 29)
  have Bf := Blk.new w 29 #[.int .i64 f.f, .int .i64 f.t]
  rcases hO.2 with ⟨h1, h2⟩ | ⟨g, cap, cur, hv, hg, hh, hnc, hcm, hcs, _⟩
  · obtain ⟨rfl, h3, rfl⟩ : A = none ∧ l.length = 0 ∧ c = 0 := by simpa using h1
    rw [h3]
    clear hO h1 h2 h3
    go_enter Try.func15, Try.ntmps15
    go_wp2_with fail
    obtain ⟨w2, hw2⟩ : ∃ x, x = w.alloc (Obj.cells #[.int .i64 f.f, .int .i64 f.t] 29) := ⟨_, rfl⟩
    rw [← hw2] at hb0 ⊢
    clear hw2 Bf
    go_loopw [11] (fun v wr => v = .int .i64 0 ∧ wr = w2) (fun v _ => 0)
    case atStart => exact ⟨rfl, rfl⟩
    case round =>
      obtain ⟨rfl, rfl⟩ := hrel
      go_wp2_with fail
      refine ⟨rfl, .tuple #[], by simp [results, Try.results15], ?_⟩
      exact ⟨rfl, hb0⟩
  · obtain ⟨rfl, _, rfl⟩ : A = some ⟨g, 0, none⟩ ∧ True ∧ c = cap := by simpa using hv
    have hB : Blk w g 29 cur := hh
    have hgl := hB.lt
    have hnc' : l.length ≤ c := hnc
    have hcm' : c ≤ 9223372036854775807 := hcm
    have hcs' : cur.size = c * 2 := hcs
    have hcc : c ≤ c := Nat.le_refl _
    have hB := hB.alloc (Obj.cells #[.int .i64 f.f, .int .i64 f.t] 29)
    clear hO hv hnc hcm hcs hh
    go_enter Try.func15, Try.ntmps15
    go_wp2_with fail
    obtain ⟨w2, hw2⟩ : ∃ x, x = w.alloc (Obj.cells #[.int .i64 f.f, .int .i64 f.t] 29) := ⟨_, rfl⟩
    have hsz2 : w2.heap.size = w.heap.size + 1 := by rw [hw2]; simp
    rw [← hw2] at hb0 hB Bf ⊢
    clear hw2
    go_loopw [11] (fun v wr => ∃ (j : Nat) (cs : Array Value), j ≤ c ∧ v = .int .i64 j ∧ Hid (cs.size = c * 2) ∧ Blk wr g 29 cs ∧ Blk wr w.heap.size 29 #[.int .i64 f.f, .int .i64 f.t] ∧ Below base w wr) (fun v _ => c - (intOf v).toNat)
    case atStart => exact ⟨0, cur, Nat.zero_le _, rfl, Lib.hid hcs', hB, Bf, hb0⟩
    case round =>
      obtain ⟨j, cs, hj, rfl, HC, hBr, hFr, hbr⟩ := hrel
      by_cases hlt : j < c
      case neg =>
        obtain rfl : j = c := by omega
        go_wp2_with fail
        refine ⟨rfl, .tuple #[], by simp [results, Try.results15], ?_⟩
        exact ⟨rfl, hbr⟩
      case pos =>
        have hjc : (j + 1) * 2 ≤ cs.size := by rw [HC.out]; exact Nat.mul_le_mul_right _ hlt
        obtain ⟨c1, c2, c3⟩ := hFr.facts
        obtain ⟨d1, d2, d3⟩ := hBr.facts
        obtain ⟨z0, hz0⟩ : ∃ z, cs[j * 2]? = some z := ⟨_, Array.getElem?_eq_getElem (by omega)⟩
        have g0 : wr.cell? ⟨g, j * 2, none⟩ = some z0 := (hBr.cell _).trans hz0
        obtain ⟨z1, hz1⟩ : ∃ z, cs[j * 2 + 1]? = some z := ⟨_, Array.getElem?_eq_getElem (by omega)⟩
        have g1 : wr.cell? ⟨g, j * 2 + 1, none⟩ = some z1 := (hBr.cell _).trans hz1
        have hne : w.heap.size ≠ g := by omega
        clear d1 hz0 hz1
        go_wp2_with fail
        go_roundw
        case rel => exact ⟨j + 1, _, by omega, by go_num, Lib.hid (by simp; exact HC.out), ((hBr).set_ (j * 2) _).set_ (j * 2 + 1) _, ((hFr).far hne _).far hne _, ((hbr).setCell hg _).setCell hg _⟩
        case measure => simp [intOf]; omega

/-! ### roomy, piece -/
/-- A list is told with room behind it that is filled, in a block of its own. -/
def RoomyOutpiece (l : List PieceD) (f : PieceD) (w : World) (e : Ending) (w' : World) : Prop := ∃ g c, e = .returned (.slice (some ⟨g, 0, none⟩) l.length c) ∧ l.length + 2 ≤ c ∧ c ≤ maxLen ∧ PiecesAt w' (some ⟨g, 0, none⟩) c (l ++ [f, f]) ∧ Below w.heap.size w w'
set_option maxRecDepth 100000 in
set_option maxHeartbeats 8000000 in
theorem roomy_piece (A : Option Addr) (c : Nat) (l : List PieceD) (f : PieceD) (w : World) (hI : PiecesAt w A c l) (hl : l.length ≤ 100000) (hf : I64 f.f ∧ I64 f.t ∧ I64 f.v) :
    Calls Try.prog 8 #[.slice A l.length c, pieceV f] w (RoomyOutpiece l f w) := by
  obtain ⟨i0, hi, hz0, hz1, hz2⟩ := info_piece2
  have HI := Lib.hid hI
  have HL := Lib.hid hl
  have HF := Lib.hid hf
  have hm9 := hI.len
  have hjw : IntKind.i64.wrap ((l.length : Int) + 3) = (l.length : Int) + 3 := IntWalk.i64_in _ (by omega)
  have HMK := Lib.hid (fun (base : Nat) (W : World) (hb : base ≤ W.heap.size) => run_make_own (P := Try.prog) W base 23 25 i0 _ 3 Try.underlying23 hi hz0 hz1 .i64 .i64 (l.length + 3) (by rw [hz2]; omega) (by unfold maxLen; omega) hb)
  clear hI hl hf
  go_enter Try.func8, Try.ntmps8
  go_wp2_with fail
  obtain ⟨w2, hw2⟩ : ∃ x, x = w.alloc (Obj.cells #[.int .i64 f.f, .int .i64 f.t, .int .i64 f.v] 25) := ⟨_, rfl⟩
  have Bf : Blk w2 w.heap.size 25 #[.int .i64 f.f, .int .i64 f.t, .int .i64 f.v] := by rw [hw2]; exact Blk.new _ _ _
  have hb0 : Below w.heap.size w w2 := by rw [hw2]; exact ext_alloc (Below.refl _ w) _
  rw [← hw2]
  clear hw2
  obtain ⟨S, hSS⟩ : ∃ S : World → Prop, Hid (S = fun w' => w'.cell? ⟨w.heap.size, 0, none⟩ = some (.int .i64 f.f) ∧ w'.cell? ⟨w.heap.size, 1, none⟩ = some (.int .i64 f.t) ∧ w'.cell? ⟨w.heap.size, 2, none⟩ = some (.int .i64 f.v)) := ⟨_, Lib.hid rfl⟩
  have Bf := Bf.drew
  have hS0 : S w2.drew := by rw [hSS.out]; exact ⟨Bf.cell 0, Bf.cell 1, Bf.cell 2⟩
  have hb2 := below_drew hb0
  clear hb0
  have hzw2 := hb2.size
  refine WpN.begin (S := S) 10 (by kernel_rfl) ?_
  refine WpN.takeD (i := 0) (v := ?_) rfl rfl (by kernel_rfl) (fun _ _ _ h => h) (Or.inl ⟨by rfl, ?_⟩) (by assumption) ?_
  rotate_left
  · intro w hSw; rw [hSS.out] at hSw; obtain ⟨sw0, sw1, sw2⟩ := hSw; go_simp; try with_reducible rfl
  try simp only [Act.put, List.setIfInBounds_toArray, List.set_cons_zero, List.set_cons_succ]
  refine WpN.takeD (i := 1) (v := ?_) rfl rfl (by kernel_rfl) (fun _ _ _ h => h) (Or.inl ⟨by rfl, ?_⟩) (by assumption) ?_
  rotate_left
  · intro w hSw; rw [hSS.out] at hSw; obtain ⟨sw0, sw1, sw2⟩ := hSw; go_simp; try with_reducible rfl
  try simp only [Act.put, List.setIfInBounds_toArray, List.set_cons_zero, List.set_cons_succ]
  refine WpN.takeD (i := 2) (v := ?_) rfl rfl (by kernel_rfl) (fun _ _ _ h => h) (Or.inl ⟨by rfl, ?_⟩) (by assumption) ?_
  rotate_left
  · intro w hSw; rw [hSS.out] at hSw; obtain ⟨sw0, sw1, sw2⟩ := hSw; go_simp; try with_reducible rfl
  try simp only [Act.put, List.setIfInBounds_toArray, List.set_cons_zero, List.set_cons_succ]
  refine WpN.takeD (i := 4) (v := ?_) rfl rfl (by kernel_rfl) (fun _ _ _ h => h) (Or.inl ⟨by rfl, ?_⟩) (by assumption) ?_
  rotate_left
  · intro w hSw; rw [hSS.out] at hSw; obtain ⟨sw0, sw1, sw2⟩ := hSw; go_simp; try with_reducible rfl
  try simp only [Act.put, List.setIfInBounds_toArray, List.set_cons_zero, List.set_cons_succ]
  refine WpN.takeD (i := 6) (v := ?_) rfl rfl (by kernel_rfl) (fun _ _ _ h => h) (Or.inl ⟨by rfl, ?_⟩) (by assumption) ?_
  rotate_left
  · intro w hSw; rw [hSS.out] at hSw; obtain ⟨sw0, sw1, sw2⟩ := hSw; go_simp; try with_reducible rfl
  try simp only [Act.put, List.setIfInBounds_toArray, List.set_cons_zero, List.set_cons_succ]
  refine WpN.takeD (i := 7) (v := ?_) rfl rfl (by kernel_rfl) (fun _ _ _ h => h) (Or.inl ⟨by rfl, ?_⟩) (by assumption) ?_
  rotate_left
  · intro w hSw; rw [hSS.out] at hSw; obtain ⟨sw0, sw1, sw2⟩ := hSw; go_simp; try with_reducible rfl
  try simp only [Act.put, List.setIfInBounds_toArray, List.set_cons_zero, List.set_cons_succ]
  have HB2 : Hid (w.heap.size < w2.drew.heap.size) := Lib.hid Bf.lt
  have key : ∀ (W3 : World) (v3 : Value) (Wx : World), True := fun _ _ _ => trivial
  clear key
  refine WpN.two (i := 3) (j := 8) rfl rfl (by kernel_rfl) (fun K hK => ?_) (fun K hK => ?_)
  · obtain ⟨w3, hr3, hO3, hg3⟩ := HMK.out w2.drew.heap.size w2.drew (Nat.le_refl _)
    have hr3 : (Instr.makeSlice 23 (.int .i64 0) (.int .i64 ((l.length : Int) + 3))).run Try.prog w2.drew = .ok (.slice (some ⟨w2.heap.size, 0, none⟩) 0 (l.length + 3)) w3 := hr3
    have hO3 : Own pieceC 3 w3 w2.drew.heap.size 25 (.slice (some ⟨w2.drew.heap.size, 0, none⟩) 0 (l.length + 3)) [] := hO3
    have hb3 : Below w2.drew.heap.size w2.drew w3 := (Below.refl _ w2.drew).grown hg3 (Nat.le_refl _) (fun k hk => by cases hk)
    go_wp2_with fail
    have Bf3 := Bf.ext hb3
    have hS3 : S w3 := by rw [hSS.out]; exact ⟨Bf3.cell 0, Bf3.cell 1, Bf3.cell 2⟩
    refine hK.out _ _ ⟨fun _ => hS3, ?_⟩
    clear hK K hr3 hg3
    refine WpN.two (i := 5) (j := 8) rfl rfl (by kernel_rfl) (fun K hK => ?_) (fun K hK => ?_)
    · refine wp_append_from (enc := pieceC) (.tmp 9) (.tmp 10) 23 rfl w2.drew.heap.size 25 i0 _ 3 24 Try.underlying23 hi hz0 hz1 hz2 rfl (by decide) _ [] l rfl hO3 A l.length c rfl rfl ((HI.out.ext hb2).ext hb3).room ((HI.out.ext hb2).ext hb3).from (pieces_one l) pieceC_len (by simp; have := HL.out; omega) (by decide) hb3.size ?_
      intro v4 w4 hO4 hb4 _
      rw [List.nil_append] at hO4
      have Bf4 := Bf3.below hb4 HB2.out
      have hS4 : S w4 := by rw [hSS.out]; exact ⟨Bf4.cell 0, Bf4.cell 1, Bf4.cell 2⟩
      refine hK.out _ _ ⟨fun _ => hS4, ?_⟩
      clear hK K
      refine WpN.one (i := 8) rfl (by kernel_rfl) fun K hK => ?_
      go_wp2_with fail
      have O5 : Own pieceC 3 (w4.alloc (Obj.cells #[.int .i64 f.f, .int .i64 f.t, .int .i64 f.v, .int .i64 f.f, .int .i64 f.t, .int .i64 f.v] 25)) w4.heap.size 25 (.slice (some ⟨w4.heap.size, 0, none⟩) 2 2) [f, f] := Own.lit rfl (Nat.le_refl _) rfl rfl rfl (by decide)
      have hbl := ext_alloc (Below.refl _ w4) (Obj.cells #[.int .i64 f.f, .int .i64 f.t, .int .i64 f.v, .int .i64 f.f, .int .i64 f.t, .int .i64 f.v] 25)
      have Bf5 := Bf4.ext hbl
      have hS5 : S (w4.alloc (Obj.cells #[.int .i64 f.f, .int .i64 f.t, .int .i64 f.v, .int .i64 f.f, .int .i64 f.t, .int .i64 f.v] 25)) := by rw [hSS.out]; exact ⟨Bf5.cell 0, Bf5.cell 1, Bf5.cell 2⟩
      have hO4 := hO4.ext hbl
      have hz4 : w2.drew.heap.size ≤ w4.heap.size := Nat.le_trans hb3.size hb4.size
      have hb5 : Below w2.drew.heap.size w2.drew (w4.alloc (Obj.cells #[.int .i64 f.f, .int .i64 f.t, .int .i64 f.v, .int .i64 f.f, .int .i64 f.t, .int .i64 f.v] 25)) := (hb3.trans hb4).trans (hbl.mono hz4)
      refine hK.out _ _ ⟨fun _ => hS5, ?_⟩
      clear hK K hbl
      refine WpN.one (i := 9) rfl (by kernel_rfl) fun K hK => ?_
      refine wp_append_two (enc := pieceC) (.tmp 11) (.tmp 14) 23 rfl w2.drew.heap.size w4.heap.size 25 i0 _ 3 24 Try.underlying23 hi hz0 hz1 hz2 rfl (by decide) v4 _ l [f, f] rfl rfl hO4 O5 (pieces_one _) (by simp; have := HL.out; omega) (by decide) hb5.size ?_
      intro v6 w6 O6 hb6
      have Bf6 := Bf5.below hb6 HB2.out
      have hS6 : S w6 := by rw [hSS.out]; exact ⟨Bf6.cell 0, Bf6.cell 1, Bf6.cell 2⟩
      refine hK.out _ _ ⟨fun _ => hS6, ?_⟩
      clear hK K
      have hb7 : Below w.heap.size w w6 := ext_trans hb2 (hb5.trans hb6)
      have HQ : Hid ((l ++ [f, f]).length = l.length + 2) := Lib.hid (by simp)
      obtain ⟨A6, c6, rfl, hN6⟩ := own_pieces O6 (fun x hx => by
        rcases List.mem_append.1 hx with hx | hx
        · obtain ⟨k, hk⟩ := List.getElem?_of_mem hx
          exact HI.out.i64 hk
        · rw [show x = f by simpa using hx]; exact HF.out)
      obtain ⟨g6, rfl⟩ : ∃ g, A6 = some ⟨g, 0, none⟩ := by
        rcases O6.2 with ⟨h1, h2⟩ | ⟨g, cap, cur, hv, _⟩
        · rw [HQ.out] at h2; omega
        · simp only [Value.slice.injEq] at hv
          exact ⟨g, hv.1⟩
      rw [HQ.out]
      have HN6 := Lib.hid hN6.toPiecesAt
      have hlc := hN6.lc
      have hcm : c6 ≤ 9223372036854775807 := hN6.cm
      rw [HQ.out] at hlc
      have hln : l.length ≤ l.length + 2 := by omega
      have hlc2 : l.length ≤ c6 := by omega
      have HB7 := Lib.hid hb7
      clear O6 hN6 hO4 O5 hb5 hb6 Bf6 Bf5 hS5 hS6 hb7 hb2 HQ
      refine WpN.one (i := 10) rfl (by kernel_rfl) fun K hK => ?_
      go_wp2_with fail
      refine hK.out _ _ ⟨fun h => absurd h (by decide), ?_⟩
      refine WpN.done (by kernel_rfl) ?_ _
      clear hK K
      go_wp2_with fail
      refine bodyPost_ret (v := .slice (some ⟨g6, 0, none⟩) l.length c6) (by simp [results, Try.results8]) rfl ?_
      exact ⟨g6, c6, rfl, hlc, hcm, HN6.out, HB7.out⟩
    · go_wp2_with fail
      have O5 : Own pieceC 3 (w3.alloc (Obj.cells #[.int .i64 f.f, .int .i64 f.t, .int .i64 f.v, .int .i64 f.f, .int .i64 f.t, .int .i64 f.v] 25)) w3.heap.size 25 (.slice (some ⟨w3.heap.size, 0, none⟩) 2 2) [f, f] := Own.lit rfl (Nat.le_refl _) rfl rfl rfl (by decide)
      have hbl := ext_alloc (Below.refl _ w3) (Obj.cells #[.int .i64 f.f, .int .i64 f.t, .int .i64 f.v, .int .i64 f.f, .int .i64 f.t, .int .i64 f.v] 25)
      have hL5 : Blk (w3.alloc (Obj.cells #[.int .i64 f.f, .int .i64 f.t, .int .i64 f.v, .int .i64 f.f, .int .i64 f.t, .int .i64 f.v] 25)) w3.heap.size 25 #[.int .i64 f.f, .int .i64 f.t, .int .i64 f.v, .int .i64 f.f, .int .i64 f.t, .int .i64 f.v] := Blk.new _ _ _
      have Bf5 := Bf3.ext hbl
      have hS5 : S (w3.alloc (Obj.cells #[.int .i64 f.f, .int .i64 f.t, .int .i64 f.v, .int .i64 f.f, .int .i64 f.t, .int .i64 f.v] 25)) := by rw [hSS.out]; exact ⟨Bf5.cell 0, Bf5.cell 1, Bf5.cell 2⟩
      have hne : some w3.heap.size ≠ (Value.slice (some ⟨w2.drew.heap.size, 0, none⟩) 0 (l.length + 3)).ownBlock := hO3.block_lt (Nat.le_refl _)
      have hO3 := hO3.ext hbl
      have hb5 : Below w2.drew.heap.size w2.drew (w3.alloc (Obj.cells #[.int .i64 f.f, .int .i64 f.t, .int .i64 f.v, .int .i64 f.f, .int .i64 f.t, .int .i64 f.v] 25)) := hb3.trans (hbl.mono hb3.size)
      refine hK.out _ _ ⟨fun _ => hS5, ?_⟩
      clear hK K hbl
      refine WpN.one (i := 5) rfl (by kernel_rfl) fun K hK => ?_
      have HIW := HI.out.ext (ext_trans hb2 hb5)
      refine wp_append_from (enc := pieceC) (.tmp 9) (.tmp 10) 23 rfl w2.drew.heap.size 25 i0 _ 3 24 Try.underlying23 hi hz0 hz1 hz2 rfl (by decide) _ [] l rfl hO3 A l.length c rfl rfl HIW.room HIW.from (pieces_one l) pieceC_len (by simp; have := HL.out; omega) (by decide) hb5.size ?_
      intro v4 w4 hO4 hb4 hfar
      rw [List.nil_append] at hO4
      have Bf5 := Bf5.below hb4 HB2.out
      have hS4 : S w4 := by rw [hSS.out]; exact ⟨Bf5.cell 0, Bf5.cell 1, Bf5.cell 2⟩
      have O5 : Own pieceC 3 w4 w3.heap.size 25 (.slice (some ⟨w3.heap.size, 0, none⟩) 2 2) [f, f] := Own.lit2 (hfar _ _ _ hL5 hne) (Nat.le_refl _) rfl rfl rfl (by decide)
      have hb5 := hb5.trans hb4
      refine hK.out _ _ ⟨fun _ => hS4, ?_⟩
      clear hK K hb4 hfar hL5
      refine WpN.one (i := 9) rfl (by kernel_rfl) fun K hK => ?_
      refine wp_append_two (enc := pieceC) (.tmp 11) (.tmp 14) 23 rfl w2.drew.heap.size w3.heap.size 25 i0 _ 3 24 Try.underlying23 hi hz0 hz1 hz2 rfl (by decide) v4 _ l [f, f] rfl rfl hO4 O5 (pieces_one _) (by simp; have := HL.out; omega) (by decide) hb5.size ?_
      intro v6 w6 O6 hb6
      have Bf6 := Bf5.below hb6 HB2.out
      have hS6 : S w6 := by rw [hSS.out]; exact ⟨Bf6.cell 0, Bf6.cell 1, Bf6.cell 2⟩
      refine hK.out _ _ ⟨fun _ => hS6, ?_⟩
      clear hK K
      have hb7 : Below w.heap.size w w6 := ext_trans hb2 (hb5.trans hb6)
      have HQ : Hid ((l ++ [f, f]).length = l.length + 2) := Lib.hid (by simp)
      obtain ⟨A6, c6, rfl, hN6⟩ := own_pieces O6 (fun x hx => by
        rcases List.mem_append.1 hx with hx | hx
        · obtain ⟨k, hk⟩ := List.getElem?_of_mem hx
          exact HI.out.i64 hk
        · rw [show x = f by simpa using hx]; exact HF.out)
      obtain ⟨g6, rfl⟩ : ∃ g, A6 = some ⟨g, 0, none⟩ := by
        rcases O6.2 with ⟨h1, h2⟩ | ⟨g, cap, cur, hv, _⟩
        · rw [HQ.out] at h2; omega
        · simp only [Value.slice.injEq] at hv
          exact ⟨g, hv.1⟩
      rw [HQ.out]
      have HN6 := Lib.hid hN6.toPiecesAt
      have hlc := hN6.lc
      have hcm : c6 ≤ 9223372036854775807 := hN6.cm
      rw [HQ.out] at hlc
      have hln : l.length ≤ l.length + 2 := by omega
      have hlc2 : l.length ≤ c6 := by omega
      have HB7 := Lib.hid hb7
      clear O6 hN6 hO4 O5 hb5 hb6 Bf6 Bf5 hS5 hS6 hb7 hb2 HQ
      refine WpN.one (i := 10) rfl (by kernel_rfl) fun K hK => ?_
      go_wp2_with fail
      refine hK.out _ _ ⟨fun h => absurd h (by decide), ?_⟩
      refine WpN.done (by kernel_rfl) ?_ _
      clear hK K
      go_wp2_with fail
      refine bodyPost_ret (v := .slice (some ⟨g6, 0, none⟩) l.length c6) (by simp [results, Try.results8]) rfl ?_
      exact ⟨g6, c6, rfl, hlc, hcm, HN6.out, HB7.out⟩
  · go_wp2_with fail
    have O5 : Own pieceC 3 (w2.alloc (Obj.cells #[.int .i64 f.f, .int .i64 f.t, .int .i64 f.v, .int .i64 f.f, .int .i64 f.t, .int .i64 f.v] 25)).drew w2.drew.heap.size 25 (.slice (some ⟨w2.drew.heap.size, 0, none⟩) 2 2) [f, f] := (show Own pieceC 3 (w2.alloc (Obj.cells #[.int .i64 f.f, .int .i64 f.t, .int .i64 f.v, .int .i64 f.f, .int .i64 f.t, .int .i64 f.v] 25)) w2.heap.size 25 (.slice (some ⟨w2.heap.size, 0, none⟩) 2 2) [f, f] from Own.lit rfl (Nat.le_refl _) rfl rfl rfl (by decide))
    have hL5 : Blk (w2.alloc (Obj.cells #[.int .i64 f.f, .int .i64 f.t, .int .i64 f.v, .int .i64 f.f, .int .i64 f.t, .int .i64 f.v] 25)).drew w2.drew.heap.size 25 #[.int .i64 f.f, .int .i64 f.t, .int .i64 f.v, .int .i64 f.f, .int .i64 f.t, .int .i64 f.v] := (Blk.new w2 _ _).drew
    have hbl : Below w2.drew.heap.size w2.drew (w2.alloc (Obj.cells #[.int .i64 f.f, .int .i64 f.t, .int .i64 f.v, .int .i64 f.f, .int .i64 f.t, .int .i64 f.v] 25)).drew := ext_alloc (Below.refl _ w2.drew) (Obj.cells #[.int .i64 f.f, .int .i64 f.t, .int .i64 f.v, .int .i64 f.f, .int .i64 f.t, .int .i64 f.v] 25)
    have Bf5 := Bf.ext hbl
    have hS5 : S (w2.alloc (Obj.cells #[.int .i64 f.f, .int .i64 f.t, .int .i64 f.v, .int .i64 f.f, .int .i64 f.t, .int .i64 f.v] 25)).drew := by rw [hSS.out]; exact ⟨Bf5.cell 0, Bf5.cell 1, Bf5.cell 2⟩
    refine hK.out _ _ ⟨fun _ => hS5, ?_⟩
    clear hK K
    refine WpN.one (i := 3) rfl (by kernel_rfl) fun K hK => ?_
    obtain ⟨w3, hr3, hO3, hg3⟩ := HMK.out w2.drew.heap.size (w2.alloc (Obj.cells #[.int .i64 f.f, .int .i64 f.t, .int .i64 f.v, .int .i64 f.f, .int .i64 f.t, .int .i64 f.v] 25)).drew hbl.size
    have hO3 : Own pieceC 3 w3 w2.drew.heap.size 25 (.slice (some ⟨(w2.alloc (Obj.cells #[.int .i64 f.f, .int .i64 f.t, .int .i64 f.v, .int .i64 f.f, .int .i64 f.t, .int .i64 f.v] 25)).drew.heap.size, 0, none⟩) 0 (l.length + 3)) [] := hO3
    have hr3 : (Instr.makeSlice 23 (.int .i64 0) (.int .i64 ((l.length : Int) + 3))).run Try.prog (w2.alloc (Obj.cells #[.int .i64 f.f, .int .i64 f.t, .int .i64 f.v, .int .i64 f.f, .int .i64 f.t, .int .i64 f.v] 25)).drew = .ok (.slice (some ⟨w2.heap.size + 1, 0, none⟩) 0 (l.length + 3)) w3 := by rw [show (w2.heap.size + 1) = (w2.alloc (Obj.cells #[.int .i64 f.f, .int .i64 f.t, .int .i64 f.v, .int .i64 f.f, .int .i64 f.t, .int .i64 f.v] 25)).heap.size by simp]; exact hr3
    have hb3 : Below (w2.alloc (Obj.cells #[.int .i64 f.f, .int .i64 f.t, .int .i64 f.v, .int .i64 f.f, .int .i64 f.t, .int .i64 f.v] 25)).drew.heap.size (w2.alloc (Obj.cells #[.int .i64 f.f, .int .i64 f.t, .int .i64 f.v, .int .i64 f.f, .int .i64 f.t, .int .i64 f.v] 25)).drew w3 := (Below.refl _ _).grown hg3 (Nat.le_refl _) (fun k hk => by cases hk)
    go_wp2_with fail
    have Bf5 := Bf5.ext hb3
    have hS6 : S w3 := by rw [hSS.out]; exact ⟨Bf5.cell 0, Bf5.cell 1, Bf5.cell 2⟩
    have hL5 := hL5.ext hb3
    have O5 := O5.ext hb3
    have hb5 : Below w2.drew.heap.size w2.drew w3 := ext_trans hbl hb3
    refine hK.out _ _ ⟨fun _ => hS6, ?_⟩
    clear hK K hr3 hg3 hbl
    rw [show (w2.alloc (Obj.cells #[.int .i64 f.f, .int .i64 f.t, .int .i64 f.v, .int .i64 f.f, .int .i64 f.t, .int .i64 f.v] 25)).drew.heap.size = w2.heap.size + 1 by simp] at hO3
    have hne : some w2.drew.heap.size ≠ (Value.slice (some ⟨w2.heap.size + 1, 0, none⟩) 0 (l.length + 3)).ownBlock := fun h => by have h9 : w2.heap.size = w2.heap.size + 1 := Option.some.inj h; omega
    refine WpN.one (i := 5) rfl (by kernel_rfl) fun K hK => ?_
    have HIW := HI.out.ext (ext_trans hb2 hb5)
    refine wp_append_from (enc := pieceC) (.tmp 9) (.tmp 10) 23 rfl w2.drew.heap.size 25 i0 _ 3 24 Try.underlying23 hi hz0 hz1 hz2 rfl (by decide) _ [] l rfl hO3 A l.length c rfl rfl HIW.room HIW.from (pieces_one l) pieceC_len (by simp; have := HL.out; omega) (by decide) hb5.size ?_
    intro v4 w4 hO4 hb4 hfar
    rw [List.nil_append] at hO4
    have Bf5 := Bf5.below hb4 HB2.out
    have hS4 : S w4 := by rw [hSS.out]; exact ⟨Bf5.cell 0, Bf5.cell 1, Bf5.cell 2⟩
    have O5 : Own pieceC 3 w4 w2.drew.heap.size 25 (.slice (some ⟨w2.drew.heap.size, 0, none⟩) 2 2) [f, f] := Own.lit2 (hfar _ _ _ hL5 hne) (Nat.le_refl _) rfl rfl rfl (by decide)
    have hb5 := hb5.trans hb4
    refine hK.out _ _ ⟨fun _ => hS4, ?_⟩
    clear hK K hb4 hfar hL5
    refine WpN.one (i := 9) rfl (by kernel_rfl) fun K hK => ?_
    refine wp_append_two (enc := pieceC) (.tmp 11) (.tmp 14) 23 rfl w2.drew.heap.size w2.drew.heap.size 25 i0 _ 3 24 Try.underlying23 hi hz0 hz1 hz2 rfl (by decide) v4 _ l [f, f] rfl rfl hO4 O5 (pieces_one _) (by simp; have := HL.out; omega) (by decide) hb5.size ?_
    intro v6 w6 O6 hb6
    have Bf6 := Bf5.below hb6 HB2.out
    have hS6 : S w6 := by rw [hSS.out]; exact ⟨Bf6.cell 0, Bf6.cell 1, Bf6.cell 2⟩
    refine hK.out _ _ ⟨fun _ => hS6, ?_⟩
    clear hK K
    have hb7 : Below w.heap.size w w6 := ext_trans hb2 (hb5.trans hb6)
    have HQ : Hid ((l ++ [f, f]).length = l.length + 2) := Lib.hid (by simp)
    obtain ⟨A6, c6, rfl, hN6⟩ := own_pieces O6 (fun x hx => by
      rcases List.mem_append.1 hx with hx | hx
      · obtain ⟨k, hk⟩ := List.getElem?_of_mem hx
        exact HI.out.i64 hk
      · rw [show x = f by simpa using hx]; exact HF.out)
    obtain ⟨g6, rfl⟩ : ∃ g, A6 = some ⟨g, 0, none⟩ := by
      rcases O6.2 with ⟨h1, h2⟩ | ⟨g, cap, cur, hv, _⟩
      · rw [HQ.out] at h2; omega
      · simp only [Value.slice.injEq] at hv
        exact ⟨g, hv.1⟩
    rw [HQ.out]
    have HN6 := Lib.hid hN6.toPiecesAt
    have hlc := hN6.lc
    have hcm : c6 ≤ 9223372036854775807 := hN6.cm
    rw [HQ.out] at hlc
    have hln : l.length ≤ l.length + 2 := by omega
    have hlc2 : l.length ≤ c6 := by omega
    have HB7 := Lib.hid hb7
    clear O6 hN6 hO4 O5 hb5 hb6 Bf6 Bf5 hS5 hS6 hb7 hb2 HQ
    refine WpN.one (i := 10) rfl (by kernel_rfl) fun K hK => ?_
    go_wp2_with fail
    refine hK.out _ _ ⟨fun h => absurd h (by decide), ?_⟩
    refine WpN.done (by kernel_rfl) ?_ _
    clear hK K
    go_wp2_with fail
    refine bodyPost_ret (v := .slice (some ⟨g6, 0, none⟩) l.length c6) (by simp [results, Try.results8]) rfl ?_
    exact ⟨g6, c6, rfl, hlc, hcm, HN6.out, HB7.out⟩

/-! ### kept, piece -/
set_option maxRecDepth 100000 in
set_option maxHeartbeats 4000000 in
theorem kept_piece (g c : Nat) (l : List PieceD) (f : PieceD) (w : World) (hI : PiecesAt w (some ⟨g, 0, none⟩) c (l ++ [f, f])) :
    Calls Try.prog 25 #[.slice (some ⟨g, 0, none⟩) l.length c, pieceV f] w fun e w' => e = .returned (.bool true) ∧ Below w.heap.size w w' := by
  have hlc := hI.lc
  have hcm : c ≤ 9223372036854775807 := hI.cm
  rw [List.length_append] at hlc
  have hlc : l.length + 2 ≤ c := hlc
  have hI := hI.ext (ext_alloc (Below.refl _ w) (Obj.cells #[.int .i64 f.f, .int .i64 f.t, .int .i64 f.v] 25))
  obtain ⟨b, off, e1, hb1, x0, x1, x2⟩ := hI.get (k := l.length) (x := f) (by simp)
  obtain ⟨rfl, rfl⟩ : g = b ∧ 0 = off := by simpa using e1
  obtain ⟨b, off, e2, hb2, y0, y1, y2⟩ := hI.get (k := l.length + 1) (x := f) (by simp)
  obtain ⟨rfl, rfl⟩ : g = b ∧ 0 = off := by simpa using e2
  rw [Nat.zero_add] at x0 x1 x2 y0 y1 y2
  have hjw : IntKind.i64.wrap ((l.length : Int) + 2) = (l.length : Int) + 2 := IntWalk.i64_in _ (by omega)
  have hjw1 : IntKind.i64.wrap ((l.length : Int) + 1) = (l.length : Int) + 1 := IntWalk.i64_in _ (by omega)
  have hq := same_piece f f
  rw [show decide (f = f) = true by simp] at hq
  have h1 : l.length < l.length + 2 := by omega
  have h2 : l.length + 1 < l.length + 2 := by omega
  have h0 : (0 : Int) ≤ (l.length : Int) + 2 := by omega
  have h3 : (l.length : Int) + 2 ≤ c := by omega
  have h4 : (0 : Int) ≤ (l.length : Int) + 1 := by omega
  have h5 : (l.length : Int) + 1 < (l.length : Int) + 2 := by omega
  have h6 : (l.length : Int) < (l.length : Int) + 2 := by omega
  have hn2 : ((l.length : Int) + 2).toNat = l.length + 2 := by omega
  have hn1 : ((l.length : Int) + 1).toNat = l.length + 1 := by omega
  clear hI e1 e2
  go_enter Try.func25, Try.ntmps25
  go_wp2_with fail
  go_quiet (fail)
  go_wp2_with fail
  go_ret
  exact ⟨rfl, below_drewN (ext_alloc (Below.refl _ w) _) _⟩

/-! ### spoil, piece -/
set_option maxRecDepth 100000 in
set_option maxHeartbeats 4000000 in
theorem spoil_piece (A : Option Addr) (c n base : Nat) (l : List PieceD) (f : PieceD) (w : World) (hO : Own pieceC 3 w base 25 (.slice A n c) l) (hbase : base ≤ w.heap.size) :
    Calls Try.prog 19 #[.slice A n c, pieceV f] w fun e w' => e = .returned (.tuple #[]) ∧ Below base w w' := by
  obtain ⟨Ao, co, hv⟩ := hO.form
  obtain ⟨rfl, rfl, rfl⟩ : A = Ao ∧ n = l.length ∧ c = co := by simpa using hv
  clear hv
  have hb0 := (Below.refl base w).alloc hbase (Obj.cells #[.int .i64 f.f, .int .i64 f.t, .int .i64 f.v] 25)
  have Bf := Blk.new w 25 #[.int .i64 f.f, .int .i64 f.t, .int .i64 f.v]
  rcases hO.2 with ⟨h1, h2⟩ | ⟨g, cap, cur, hv, hg, hh, hnc, hcm, hcs, _⟩
  · obtain ⟨rfl, h3, rfl⟩ : A = none ∧ l.length = 0 ∧ c = 0 := by simpa using h1
    rw [h3]
    clear hO h1 h2 h3
    go_enter Try.func19, Try.ntmps19
    go_wp2_with fail
    obtain ⟨w2, hw2⟩ : ∃ x, x = w.alloc (Obj.cells #[.int .i64 f.f, .int .i64 f.t, .int .i64 f.v] 25) := ⟨_, rfl⟩
    rw [← hw2] at hb0 ⊢
    clear hw2 Bf
    go_loopw [11] (fun v wr => v = .int .i64 0 ∧ wr = w2) (fun v _ => 0)
    case atStart => exact ⟨rfl, rfl⟩
    case round =>
      obtain ⟨rfl, rfl⟩ := hrel
      go_wp2_with fail
      refine ⟨rfl, .tuple #[], by simp [results, Try.results19], ?_⟩
      exact ⟨rfl, hb0⟩
  · obtain ⟨rfl, _, rfl⟩ : A = some ⟨g, 0, none⟩ ∧ True ∧ c = cap := by simpa using hv
    have hB : Blk w g 25 cur := hh
    have hgl := hB.lt
    have hnc' : l.length ≤ c := hnc
    have hcm' : c ≤ 9223372036854775807 := hcm
    have hcs' : cur.size = c * 3 := hcs
    have hcc : c ≤ c := Nat.le_refl _
    have hB := hB.alloc (Obj.cells #[.int .i64 f.f, .int .i64 f.t, .int .i64 f.v] 25)
    clear hO hv hnc hcm hcs hh
    go_enter Try.func19, Try.ntmps19
    go_wp2_with fail
    obtain ⟨w2, hw2⟩ : ∃ x, x = w.alloc (Obj.cells #[.int .i64 f.f, .int .i64 f.t, .int .i64 f.v] 25) := ⟨_, rfl⟩
    have hsz2 : w2.heap.size = w.heap.size + 1 := by rw [hw2]; simp
    rw [← hw2] at hb0 hB Bf ⊢
    clear hw2
    go_loopw [11] (fun v wr => ∃ (j : Nat) (cs : Array Value), j ≤ c ∧ v = .int .i64 j ∧ Hid (cs.size = c * 3) ∧ Blk wr g 25 cs ∧ Blk wr w.heap.size 25 #[.int .i64 f.f, .int .i64 f.t, .int .i64 f.v] ∧ Below base w wr) (fun v _ => c - (intOf v).toNat)
    case atStart => exact ⟨0, cur, Nat.zero_le _, rfl, Lib.hid hcs', hB, Bf, hb0⟩
    case round =>
      obtain ⟨j, cs, hj, rfl, HC, hBr, hFr, hbr⟩ := hrel
      by_cases hlt : j < c
      case neg =>
        obtain rfl : j = c := by omega
        go_wp2_with fail
        refine ⟨rfl, .tuple #[], by simp [results, Try.results19], ?_⟩
        exact ⟨rfl, hbr⟩
      case pos =>
        have hjc : (j + 1) * 3 ≤ cs.size := by rw [HC.out]; exact Nat.mul_le_mul_right _ hlt
        obtain ⟨c1, c2, c3⟩ := hFr.facts
        obtain ⟨d1, d2, d3⟩ := hBr.facts
        obtain ⟨z0, hz0⟩ : ∃ z, cs[j * 3]? = some z := ⟨_, Array.getElem?_eq_getElem (by omega)⟩
        have g0 : wr.cell? ⟨g, j * 3, none⟩ = some z0 := (hBr.cell _).trans hz0
        obtain ⟨z1, hz1⟩ : ∃ z, cs[j * 3 + 1]? = some z := ⟨_, Array.getElem?_eq_getElem (by omega)⟩
        have g1 : wr.cell? ⟨g, j * 3 + 1, none⟩ = some z1 := (hBr.cell _).trans hz1
        obtain ⟨z2, hz2⟩ : ∃ z, cs[j * 3 + 2]? = some z := ⟨_, Array.getElem?_eq_getElem (by omega)⟩
        have g2 : wr.cell? ⟨g, j * 3 + 2, none⟩ = some z2 := (hBr.cell _).trans hz2
        have hne : w.heap.size ≠ g := by omega
        clear d1 hz0 hz1 hz2
        go_wp2_with fail
        go_roundw
        case rel => exact ⟨j + 1, _, by omega, by go_num, Lib.hid (by simp; exact HC.out), (((hBr).set_ (j * 3) _).set_ (j * 3 + 1) _).set_ (j * 3 + 2) _, (((hFr).far hne _).far hne _).far hne _, (((hbr).setCell hg _).setCell hg _).setCell hg _⟩
        case measure => simp [intOf]; omega

/-- A list is told, in a block of its own. -/
def OwnOutP (l : List PieceD) (w : World) (base : Nat) (e : Ending) (w' : World) : Prop := ∃ v, e = .returned v ∧ Own pieceC 3 w' base 25 v l ∧ Below base w w'

set_option maxRecDepth 100000 in
set_option maxHeartbeats 2000000 in
theorem pieceClone_any (A : Option Addr) (c : Nat) (l : List PieceD) (w : World) (hI : PiecesAt w A c l) (hl : l.length ≤ 100000) :
    Calls Try.prog 11 #[.slice A l.length c] w (OwnOutP l w w.heap.size) := by
  obtain ⟨i0, hi, hz0, hz1, hz2⟩ := info_piece2
  cases A with
  | none =>
    have h0 : l = [] := by
      cases l with
      | nil => rfl
      | cons y l =>
        obtain ⟨b, off, e, _⟩ := hI.get (k := 0) (x := y) rfl
        simp at e
    subst h0
    have hnil : ∀ W : World, (binOp .eql 23 (.slice none 0 c) (.slice none 0 0)).run Try.prog W = .ok (.bool true) W := fun W => Lib.run_eql_slice_nil_nil W 0 c Try.underlying23
    go_enter Try.func11, Try.ntmps11
    go_wp2_with fail
    go_ret
    exact ⟨_, rfl, Own.nil, by go_grown⟩
  | some ad =>
    have hsome : ∀ W : World, (binOp .eql 23 (.slice (some ad) l.length c) (.slice none 0 0)).run Try.prog W = .ok (.bool false) W := fun W => Lib.run_eql_slice_some_nil W ad l.length c Try.underlying23
    have hcells : ∀ (w' : World), Below w.heap.size w w' → ∀ (j : Nat) u, (l.flatMap pieceC)[j]? = some u → w'.cell? (ad.add j) = some u := fun w' hb j u hu => by
      cases l with
      | nil => simp at hu
      | cons y l =>
        obtain ⟨b, off, e, _⟩ := hI.get (k := 0) (x := y) rfl
        obtain rfl : ad = ⟨b, off, none⟩ := by simpa using e
        rw [Go.WideShapes.add_plain]
        exact cell_keep hb (hI.flat j u hu)
    clear hI
    go_enter Try.func11, Try.ntmps11
    go_wp2_with (at_builtin; refine wpList_append_own_at _ rfl (.tmp 5) (.tmp 6) 23 rfl w.heap.size 25 i0 _ 3 24 Try.underlying23 hi hz0 hz1 hz2 rfl (by decide) _ 0 [] rfl (Own.lit (enc := pieceC) (l := []) rfl (Nat.le_refl _) rfl rfl rfl (by decide)) ad l.length c (l.flatMap pieceC) rfl (flat_length pieceC_len l) (hcells _ (by go_grown)) (pieces_one l) (by unfold maxLen; omega) (by omega) (by simp) ?_; intro v' w6 h2 h3 _ _; have hown : Own pieceC 3 w6 w.heap.size 25 v' l := (by simpa [Own] using h2))
    have hbb : Below w.heap.size w w6 := by
      refine ((Below.refl w.heap.size w).alloc (Nat.le_refl _) (Obj.cells #[] 25)).grown h3 (by simp) ?_
      intro k hk
      have e : some w.heap.size = some k := hk
      cases e
      exact Nat.le_refl _
    go_ret
    exact ⟨_, rfl, hown, hbb⟩


end Go.Proofs.Ytdpibehpmghghaa
