/- Several texts in one: MapMerge1, Sib, MapMerge. -/
import Derived.Test.YtdpibehpmghghaaGreatBdf44b3a9ca3
/- The walks of imap.Together and of the closure of imap.Merge. -/
namespace Go.Proofs.YtdpibehpmghghaaGreat
open Go.RowKit Go.Shelf

set_option maxHeartbeats 1000000 in
theorem together_any (a b k : Int) (hk : 1 ≤ k ∧ k ≤ 3) (ha : nearB a = true) (hb : nearB b = true) (w : World) : Calls Tryz.prog 63 #[.int .i64 a, .int .i64 b, .int .i64 k] w fun e w' => e = .returned (.int .i64 (both3 k a b)) ∧ w = w' := by
  have h1 := near_iff.1 ha
  have h2 := near_iff.1 hb
  have hs : IntKind.i64.wrap (a + b) = a + b := IntWalk.i64_in _ (by omega)
  have hk3 : k = 1 ∨ k = 2 ∨ k = 3 := by omega
  clear ha hb hk
  have HR1 : both3 1 a b = min a b := by unfold both3; rw [if_neg (by decide), if_pos rfl]
  have HR2 : both3 2 a b = max a b := by unfold both3; rw [if_neg (by decide), if_neg (by decide)]
  have HR3 : both3 3 a b = a + b := by unfold both3; rw [if_pos rfl]
  have K1 := Lib.hid HR1.symm; have K2 := Lib.hid HR2.symm; have K3 := Lib.hid HR3.symm
  clear HR1 HR2 HR3 h1 h2
  rcases hk3 with rfl | rfl | rfl
  all_goals
    go_enter Tryz.func63, Tryz.ntmps63
    go_wp2_with fail
    go_ret
    first
    | exact ⟨ret_int K1.out, rfl⟩
    | exact ⟨ret_int K2.out, rfl⟩
    | exact ⟨ret_int K3.out, rfl⟩

theorem enters_merge1 : Enters Tryz.prog 62 := enters_of Tryz.func62 (by kernel_rfl) rfl
/-- Is a value too far? -/
def farO (o : Option Int) : Bool := match o with | some v => farB v | none => false
set_option maxRecDepth 100000 in
set_option maxHeartbeats 4000000 in
theorem merge1_any (A B : Option Addr) (c d ba bb bh bw : Nat) (a b : List PieceD) (k t : Int) (wr : Bool) (W : World) (hk : 1 ≤ k ∧ k ≤ 3) (hca : W.cell? ⟨ba, 0, none⟩ = some (.slice A a.length c)) (hcb : W.cell? ⟨bb, 0, none⟩ = some (.slice B b.length d))
    (hch : W.cell? ⟨bh, 0, none⟩ = some (.int .i64 k)) (hw : Blk W bw 4 #[.bool wr]) (hA : PiecesAt W A c a) (hB : PiecesAt W B d b) (hna : mapErr a = 0) (hnb : mapErr b = 0) :
    Calls Tryz.prog 62 #[.int .i64 t, .pointer (some ⟨ba, 0, none⟩), .pointer (some ⟨bb, 0, none⟩), .pointer (some ⟨bh, 0, none⟩), .pointer (some ⟨bw, 0, none⟩)] W fun e w' => e = .returned (atV (mergeF k a b t)) ∧ ∃ w1, Below W.heap.size W w1 ∧ (w' = w1 ∨ w' = w1.setCell ⟨bw, 0, none⟩ (.bool (wr || farO (mergeF k a b t)))) ∧ Blk w' bw 4 #[.bool (wr || farO (mergeF k a b t))] := by
  have hlb : bb < W.heap.size := World.block_lt_of_cell? W _ hcb
  have hlh : bh < W.heap.size := World.block_lt_of_cell? W _ hch
  have hc1 := imapAt_any A c a t W hA
  have HB := Lib.hid hB
  have HNA := Lib.hid (mapErr_zero hna); have HNB := Lib.hid (mapErr_zero hnb)
  have HK := Lib.hid hk
  have HW := Lib.hid hw
  clear hA hB hna hnb hk hw
  obtain ⟨p, hp⟩ : ∃ p, atM a t = p := ⟨_, rfl⟩
  obtain ⟨q, hq⟩ : ∃ q, atM b t = q := ⟨_, rfl⟩
  have HM : Hid (mergeF k a b t = bothO k p q) := Lib.hid (by unfold mergeF; rw [hp, hq])
  have HVA : Hid (∀ x, p = some x → nearB x = true) := Lib.hid fun x hx => HNA.out.2.vals (hp.trans hx)
  have HVB : Hid (∀ x, q = some x → nearB x = true) := Lib.hid fun x hx => HNB.out.2.vals (hq.trans hx)
  have HQ := Lib.hid hq
  rw [hp] at hc1
  rw [HM.out]
  unfold atV at hc1 ⊢
  clear hp hq HM
  cases p with
  | none =>
    cases q with
    | none =>
      simp only [Option.getD_none, Option.isSome_none] at hc1
      go_enter Tryz.func62, Tryz.ntmps62
      go_wp2_with fail
      refine hc1.mono ?_
      rintro e w1 ⟨rfl, hb1⟩
      have hcb1 := (hb1.cell (p := ⟨bb, 0, none⟩) hlb).trans hcb
      have hc2 := imapAt_any B d b t w1 (HB.out.ext hb1)
      rw [HQ.out] at hc2
      unfold atV at hc2
      simp only [Option.getD_none, Option.isSome_none] at hc2
      clear hc1
      go_wp2_with fail
      refine hc2.mono ?_
      rintro e w2 ⟨rfl, hb2⟩
      clear hc2
      have hb3 := ext_trans hb1 hb2
      go_wp2_with fail
      refine bodyPost_ret (v := .tuple #[.int .i64 0, .bool false]) (by simp [results, Tryz.results62]) rfl ?_
      exact ⟨rfl, w2, hb3, .inl rfl, by simpa [farO, bothO] using HW.out.ext hb3⟩
    | some y =>
      simp only [Option.getD_none, Option.isSome_none] at hc1
      go_enter Tryz.func62, Tryz.ntmps62
      go_wp2_with fail
      refine hc1.mono ?_
      rintro e w1 ⟨rfl, hb1⟩
      have hcb1 := (hb1.cell (p := ⟨bb, 0, none⟩) hlb).trans hcb
      have hc2 := imapAt_any B d b t w1 (HB.out.ext hb1)
      rw [HQ.out] at hc2
      unfold atV at hc2
      simp only [Option.getD_some, Option.isSome_some] at hc2
      clear hc1
      go_wp2_with fail
      refine hc2.mono ?_
      rintro e w2 ⟨rfl, hb2⟩
      clear hc2
      have hb3 := ext_trans hb1 hb2
      have hf : farB y = false := by unfold farB; rw [HVB.out y rfl]; rfl
      have HF := Lib.hid hf
      clear hf
      go_wp2_with fail
      refine bodyPost_ret (v := .tuple #[.int .i64 y, .bool true]) (by simp [results, Tryz.results62]) rfl ?_
      exact ⟨rfl, w2, hb3, .inl rfl, by simpa [farO, bothO, HF.out] using HW.out.ext hb3⟩
  | some x =>
    cases q with
    | none =>
      simp only [Option.getD_some, Option.isSome_some] at hc1
      go_enter Tryz.func62, Tryz.ntmps62
      go_wp2_with fail
      refine hc1.mono ?_
      rintro e w1 ⟨rfl, hb1⟩
      have hcb1 := (hb1.cell (p := ⟨bb, 0, none⟩) hlb).trans hcb
      have hc2 := imapAt_any B d b t w1 (HB.out.ext hb1)
      rw [HQ.out] at hc2
      unfold atV at hc2
      simp only [Option.getD_none, Option.isSome_none] at hc2
      clear hc1
      go_wp2_with fail
      refine hc2.mono ?_
      rintro e w2 ⟨rfl, hb2⟩
      clear hc2
      have hb3 := ext_trans hb1 hb2
      have hf : farB x = false := by unfold farB; rw [HVA.out x rfl]; rfl
      have HF := Lib.hid hf
      clear hf
      go_wp2_with fail
      refine bodyPost_ret (v := .tuple #[.int .i64 x, .bool true]) (by simp [results, Tryz.results62]) rfl ?_
      exact ⟨rfl, w2, hb3, .inl rfl, by simpa [farO, bothO, HF.out] using HW.out.ext hb3⟩
    | some y =>
      simp only [Option.getD_some, Option.isSome_some] at hc1
      obtain ⟨z, hz⟩ : ∃ z, both3 k x y = z := ⟨_, rfl⟩
      obtain ⟨f, hf⟩ : ∃ f, farB z = f := ⟨_, rfl⟩
      have HZ := Lib.hid hz
      have HF := Lib.hid hf
      clear hz
      have hT := fun W' => together_any x y k HK.out (HVA.out x rfl) (HVB.out y rfl) W'
      rw [HZ.out] at hT
      cases wr <;> cases f
      all_goals
        go_enter Tryz.func62, Tryz.ntmps62
        go_wp2_with fail
        refine hc1.mono ?_
        rintro e w1 ⟨rfl, hb1⟩
        have hcb1 := (hb1.cell (p := ⟨bb, 0, none⟩) hlb).trans hcb
        have hc2 := imapAt_any B d b t w1 (HB.out.ext hb1)
        rw [HQ.out] at hc2
        unfold atV at hc2
        simp only [Option.getD_some, Option.isSome_some] at hc2
        clear hc1
        go_wp2_with fail
        refine hc2.mono ?_
        rintro e w2 ⟨rfl, hb2⟩
        clear hc2
        have hb3 := ext_trans hb1 hb2
        have hch3 := (hb3.cell (p := ⟨bh, 0, none⟩) hlh).trans hch
        have BW := HW.out.ext hb3
        obtain ⟨r1, r2, r3⟩ := BW.facts
        go_wp2_with (first | (go_at_call 63; refine (hT _).mono ?_; rintro e w' ⟨rfl, rfl⟩) | (go_at_call 46; refine (far2_is hf _).mono ?_; rintro e w' ⟨rfl, rfl⟩))
        refine bodyPost_ret (v := .tuple #[.int .i64 z, .bool true]) (by simp [results, Tryz.results62]) rfl ?_
        refine ⟨by show _ = Ending.returned (.tuple #[.int .i64 (both3 k x y), .bool true]); rw [HZ.out], w2, hb3, .inr ?_, ?_⟩
        · simp only [bothO, farO, HZ.out, HF.out]; first | rfl | simp
        · simp only [bothO, farO, HZ.out, HF.out]; exact BW.set_ 0 _
end Go.Proofs.YtdpibehpmghghaaGreat
/- A world in which one block alone may have changed. -/
namespace Go.Proofs.YtdpibehpmghghaaGreat
open Go.RowKit Go.Shelf

structure Sib (g : Nat) (w w' : World) : Prop where
  os : w'.os = w.os
  tape : w'.tape = w.tape
  output : w'.output = w.output
  size : w.heap.size ≤ w'.heap.size
  block : ∀ k, k < w.heap.size → k ≠ g → w'.heap[k]? = w.heap[k]?
section
variable {g B c bw : Nat} {w w' W W' : World} {t : TypeId} {cs : Array Value} {A : Option Addr} {D : List Int} {v u : Value} {b : Bool}
theorem Sib.refl (g : Nat) (w : World) : Sib g w w := ⟨rfl, rfl, rfl, Nat.le_refl _, fun _ _ _ => rfl⟩
theorem Sib.trans (h : Sib g w W) (k : Sib g W W') : Sib g w W' :=
  ⟨k.os.trans h.os, k.tape.trans h.tape, k.output.trans h.output, Nat.le_trans h.size k.size, fun i hi hg => (k.block i (Nat.lt_of_lt_of_le hi h.size) hg).trans (h.block i hi hg)⟩
theorem Sib.of_below (h : Below w.heap.size w W) : Sib g w W := ⟨h.os, h.tape, h.output, h.size, fun k hk _ => h.block k hk⟩
theorem Sib.more (h : Sib g w W) (hb : Below w.heap.size W W') : Sib g w W' :=
  ⟨hb.os.trans h.os, hb.tape.trans h.tape, hb.output.trans h.output, Nat.le_trans h.size hb.size, fun i hi hg => (hb.block i hi).trans (h.block i hi hg)⟩
theorem Sib.store (w : World) (g : Nat) (u : Value) : Sib g w (w.setCell ⟨g, 0, none⟩ u) := by
  have h := (Below.refl g w).setCell (p := ⟨g, 0, none⟩) (Nat.le_refl _) u
  exact ⟨h.os, h.tape, h.output, h.size, fun k _ hg => Below.heap_setCell w ⟨g, 0, none⟩ u k hg⟩
theorem Sib.blk (h : Sib g w W) (hb : Blk w B t cs) (hg : B ≠ g) : Blk W B t cs := (h.block B hb.lt hg).trans hb
theorem Sib.below (h : Sib g w W) (hb : Below B w' w) (hB : B ≤ g) (hw : B ≤ w.heap.size) : Below B w' W :=
  ⟨h.os.trans hb.os, h.tape.trans hb.tape, h.output.trans hb.output, Nat.le_trans hb.size h.size, fun k hk => (h.block k (by omega) (by omega)).trans (hb.block k hk)⟩
theorem Sib.ints (h : Sib g w W) (hI : IntsAt w A c D) (hg : Blk w g 4 #[.bool b]) : IntsAt W A c D := by
  obtain ⟨x, off, hS⟩ := hI.sl
  refine ⟨hI.lc, hI.cm, x, off, fun i y hy => ?_⟩
  obtain ⟨h1, h2, h3, h4⟩ := hS i y hy
  have hne : x ≠ g := fun e => by
    subst e
    have h5 : w.cell? ⟨x, off + i * 1, none⟩ = some (.int .i64 y) := h3
    rw [hg.cell] at h5
    match hj : off + i * 1 with
    | 0 => rw [hj] at h5; simp at h5
    | n + 1 => rw [hj] at h5; simp at h5
  exact ⟨h1, Nat.lt_of_lt_of_le h2 h.size, (World.cell?_of_block (w := w) (h.block x h2 hne)).trans h3, h4⟩
end
theorem seg_of {t : Int} : ∀ {D : List Int}, D.Pairwise (· < ·) → (∃ a, a ∈ D ∧ a ≤ t) → (∃ c, c ∈ D ∧ t < c) → ∃ (j : Nat) (a c : Int), D[j]? = some a ∧ D[j + 1]? = some c ∧ a ≤ t ∧ t < c
  | [], _, ⟨_, h, _⟩, _ => by simp at h
  | [x], _, ⟨a, ha, h1⟩, ⟨c, hc, h2⟩ => by
    simp only [List.mem_singleton] at ha hc
    omega
  | x :: y :: r, hD, ⟨a, ha, h1⟩, ⟨c, hc, h2⟩ => by
    obtain ⟨hx, hl⟩ := List.pairwise_cons.1 hD
    by_cases hy : t < y
    · have hxa : x ≤ t := by
        rcases List.mem_cons.1 ha with rfl | ha
        · exact h1
        · rcases List.mem_cons.1 ha with rfl | ha
          · omega
          · have := (List.pairwise_cons.1 hl).1 a ha
            omega
      exact ⟨0, x, y, rfl, rfl, hxa, hy⟩
    · have hc2 : c ∈ y :: r := by
        rcases List.mem_cons.1 hc with rfl | hc
        · have := hx y (by simp)
          omega
        · exact hc
      obtain ⟨j, a', c', k1, k2, k3, k4⟩ := seg_of hl ⟨y, by simp, by omega⟩ ⟨c, hc2, h2⟩
      exact ⟨j + 1, a', c', k1, k2, k3, k4⟩
/-- Where what is told is far somewhere, it is so at one of the edges. -/
theorem far_at {fn : Int → Option Int} {D : List Int} (hD : D.Pairwise (· < ·)) (hT : TurnsAt D none fn) {i : Nat} (hi : D.length ≤ i + 1) (h0 : (D.take i).any (fun x => farO (fn x)) = false) : ∀ t v, fn t = some v → nearB v = true := fun t v hv => by
  obtain ⟨a, c, ha, hc, h1, h2⟩ := hT.inside t (by rw [hv]; simp)
  obtain ⟨j, a', c', k1, k2, k3, k4⟩ := seg_of hD ⟨a, ha, h1⟩ ⟨c, hc, h2⟩
  have hf := hT.const j a' c' k1 k2 t k3 k4
  obtain ⟨hj, _⟩ := List.getElem?_eq_some_iff.1 k2
  have hm : a' ∈ D.take i := List.mem_of_getElem? (i := j) (by rw [List.getElem?_take_of_lt (by omega)]; exact k1)
  have h3 := List.any_eq_false.1 h0 a' hm
  rw [← hf, hv] at h3
  exact far_off (by simpa [farO] using h3)
theorem far_some {fn : Int → Option Int} {D : List Int} {i : Nat} (h : (D.take i).any (fun x => farO (fn x)) = true) : ∃ t v, fn t = some v ∧ nearB v = false := by
  obtain ⟨x, _, hx⟩ := List.any_eq_true.1 h
  cases hf : fn x with
  | none => rw [hf] at hx; simp [farO] at hx
  | some v => rw [hf] at hx; exact ⟨x, v, hf, far_on hx⟩
end Go.Proofs.YtdpibehpmghghaaGreat
/- The walk of imap.Merge. -/
namespace Go.Proofs.YtdpibehpmghghaaGreat
open Go.RowKit Go.Shelf

theorem EachSay.wrong {fn : Int → Option Int} {er : Int} {out : List PieceD} (h : EachSay fn er out) (hw : ∃ t v, fn t = some v ∧ nearB v = false) : Tells fn 5 [] := by
  obtain ⟨U, h1, h2, _⟩ := h
  obtain ⟨t, v, k1, k2⟩ := hw
  exact ⟨U, h1, h2, (tellErr_far k1 k2).symm, fun h => by omega, fun _ => rfl⟩
theorem MergeSay.mk_ {k er : Int} {a b out : List PieceD} (ha : mapErr a = 0) (hb : mapErr b = 0) (hk : 1 ≤ k ∧ k ≤ 3) (h : Tells (mergeF k a b) er out) : MergeSay k a b er out := by
  unfold MergeSay; rw [if_pos ha, if_pos hb, if_pos hk]; exact h
theorem mergeF_i64 {k t v : Int} {a b : List PieceD} (ha : mapErr a = 0) (hb : mapErr b = 0) (h : mergeF k a b t = some v) : I64 v := by
  unfold mergeF at h
  cases hp : atM a t with
  | none =>
    rw [hp] at h
    exact near_i64 ((mapErr_zero hb).2.vals h)
  | some x =>
    cases hq : atM b t with
    | none =>
      rw [hp, hq] at h
      exact near_i64 ((mapErr_zero ha).2.vals (hp.trans h))
    | some y =>
      rw [hp, hq] at h
      obtain rfl : both3 k x y = v := by simpa [bothO] using h
      have h1 := near_iff.1 ((mapErr_zero ha).2.vals hp)
      have h2 := near_iff.1 ((mapErr_zero hb).2.vals hq)
      unfold both3 I64
      split
      · omega
      · split <;> omega

set_option maxRecDepth 100000 in
set_option maxHeartbeats 8000000 in
theorem imapMerge_any (A B : Option Addr) (c d : Nat) (a b : List PieceD) (k : Int) (w : World) (hA : PiecesAt w A c a) (hB : PiecesAt w B d b) :
    Calls Tryz.prog 30 #[.slice A a.length c, .slice B b.length d, .int .i64 k] w (MapOut (MergeSay k a b) w) := by
  have HA := Lib.hid hA; have HB := Lib.hid hB
  have hmf : ∀ (fn : Fn) (first cap : Array Value) (w : World), (Instr.makeFunc fn first cap).run Tryz.prog w = .ok (.func fn first cap) w := fun _ _ _ _ => rfl
  have hent := enters_merge1
  unfold Enters at hent
  have m1 := hA.len
  have m2 := hB.len
  clear hA hB
  obtain ⟨w0, hw0⟩ : ∃ w0, w0 = ((((w.alloc (Obj.cells #[.slice A a.length c] 42)).alloc (Obj.cells #[.slice B b.length d] 42)).alloc (Obj.cells #[.int .i64 k] 3))) := ⟨_, rfl⟩
  have hb0 : Below w.heap.size w w0 := by rw [hw0]; go_grown
  have Ba : Blk w0 w.heap.size 42 #[.slice A a.length c] := by rw [hw0]; exact ((Blk.new _ _ _).alloc _).alloc _
  have Bb : Blk w0 (w.heap.size + 1) 42 #[.slice B b.length d] := by rw [hw0]; exact (Blk.new_ (by simp)).alloc _
  have Bh : Blk w0 (w.heap.size + 1 + 1) 3 #[.int .i64 k] := by rw [hw0]; exact Blk.new_ (by simp)
  have hz0 : w0.heap.size = w.heap.size + 1 + 1 + 1 := by rw [hw0]; simp
  have HZ0 := Lib.hid hz0
  obtain ⟨c1, c2, c3⟩ := Ba.facts
  obtain ⟨e1, e2, e3⟩ := Bb.facts
  rw [hw0] at c1 c2 c3 e1 e2 e3
  have HW0 := Lib.hid hw0
  clear hw0 hz0
  go_enter Tryz.func30, Tryz.ntmps30
  go_wp2_with fail
  rw [← HW0.out]
  clear c1 c2 c3 e1 e2 e3
  obtain ⟨w1, hw1⟩ : ∃ w1, w1 = w0.alloc (Obj.cells #[.slice A a.length c, .slice B b.length d] 42) := ⟨_, rfl⟩
  have Bl : Blk w1 w0.heap.size 42 #[.slice A a.length c, .slice B b.length d] := by rw [hw1]; exact Blk.new _ _ _
  have Ba : Blk w1 w.heap.size 42 #[.slice A a.length c] := by rw [hw1]; exact Ba.alloc _
  have Bb : Blk w1 (w.heap.size + 1) 42 #[.slice B b.length d] := by rw [hw1]; exact Bb.alloc _
  have Bh : Blk w1 (w.heap.size + 1 + 1) 3 #[.int .i64 k] := by rw [hw1]; exact Bh.alloc _
  have hb1 : Below w.heap.size w w1 := by rw [hw1]; exact ext_alloc hb0 _
  have hz1 := HZ0.out
  rw [HZ0.out] at Bl
  rw [← hw1]
  clear hw1
  go_loopw [18] (fun v wr => ∃ j : Nat, j ≤ 2 ∧ v = .int .i64 j ∧ Hid (1 ≤ j → mapErr a = 0) ∧ Hid (2 ≤ j → mapErr b = 0) ∧ Below w1.heap.size w1 wr) (fun v _ => 2 - (intOf v).toNat)
  case atStart => exact ⟨0, by omega, rfl, Lib.hid fun h => by omega, Lib.hid fun h => by omega, Below.refl _ _⟩
  case round =>
    obtain ⟨j, hj, hv, HEA, HEB, hb⟩ := hrel
    obtain ⟨q1, q2, q3⟩ := (Bl.ext hb).facts
    have hbw := ext_trans hb1 hb
    have hj3 : j = 0 ∨ j = 1 ∨ j = 2 := by omega
    rcases hj3 with rfl | rfl | rfl
    · rw [show ((0 : Nat) : Int) = 0 from rfl] at hv
      subst hv
      clear hj HEA HEB
      go_wp2_with fail
      refine (imapCheck_any A c a wr (HA.out.ext hbw)).mono ?_
      by_cases h0 : mapErr a = 0
      case neg =>
        have hd : (mapErr a != 0) = true := by simpa using h0
        have HS : Hid (MergeSay k a b (mapErr a) []) := Lib.hid (by unfold MergeSay; rw [if_neg h0]; exact ⟨rfl, rfl⟩)
        clear h0
        obtain ⟨er, her⟩ : ∃ er, mapErr a = er := ⟨_, rfl⟩
        rw [her] at hd HS ⊢
        clear her
        rintro e w2 ⟨rfl, hb2⟩
        go_wp2_with fail
        refine bodyPost_ret (v := .tuple #[.slice none 0 0, .int .i64 er]) (by simp [results, Tryz.results30]) rfl ?_
        exact ⟨er, [], none, 0, HS, rfl, .nil, ext_trans hbw hb2⟩
      case pos =>
        have H0 := Lib.hid h0
        rw [h0]
        clear h0
        rintro e w2 ⟨rfl, hb2⟩
        have hbr := ext_trans hb hb2
        go_wp2_with fail
        go_roundw
        case rel => exact ⟨1, by omega, by go_num, Lib.hid fun _ => H0.out, Lib.hid fun h => by omega, hbr⟩
        case measure => simp [intOf]
    · rw [show ((1 : Nat) : Int) = 1 from rfl] at hv
      subst hv
      clear hj HEB
      go_wp2_with fail
      refine (imapCheck_any B d b wr (HB.out.ext hbw)).mono ?_
      by_cases h0 : mapErr b = 0
      case neg =>
        have hd : (mapErr b != 0) = true := by simpa using h0
        have HS : Hid (MergeSay k a b (mapErr b) []) := Lib.hid (by unfold MergeSay; rw [if_pos (HEA.out (by omega)), if_neg h0]; exact ⟨rfl, rfl⟩)
        clear h0
        obtain ⟨er, her⟩ : ∃ er, mapErr b = er := ⟨_, rfl⟩
        rw [her] at hd HS ⊢
        clear her
        rintro e w2 ⟨rfl, hb2⟩
        go_wp2_with fail
        refine bodyPost_ret (v := .tuple #[.slice none 0 0, .int .i64 er]) (by simp [results, Tryz.results30]) rfl ?_
        exact ⟨er, [], none, 0, HS, rfl, .nil, ext_trans hbw hb2⟩
      case pos =>
        have H0 := Lib.hid h0
        rw [h0]
        clear h0
        rintro e w2 ⟨rfl, hb2⟩
        have hbr := ext_trans hb hb2
        go_wp2_with fail
        go_roundw
        case rel => exact ⟨2, by omega, by go_num, Lib.hid fun _ => HEA.out (by omega), Lib.hid fun _ => H0.out, hbr⟩
        case measure => simp [intOf]
    · rw [show ((2 : Nat) : Int) = 2 from rfl] at hv
      subst hv
      have HMA := Lib.hid (HEA.out (by omega)); have HMB := Lib.hid (HEB.out (by omega))
      clear hj HEA HEB q1 q2 q3
      have Ba := Ba.ext hb; have Bb := Bb.ext hb; have Bh := Bh.ext hb
      obtain ⟨h1, h2, h3⟩ := Bh.facts
      have hbad : ¬ (1 ≤ k ∧ k ≤ 3) → Hid (MergeSay k a b 1 []) := fun h => Lib.hid (by unfold MergeSay; rw [if_pos HMA.out, if_pos HMB.out, if_neg h]; exact ⟨rfl, rfl⟩)
      by_cases k1 : k < 1
      case pos =>
        have HS := hbad (by omega)
        have d1 : decide (k < 1) = true := by simpa using k1
        clear hbad k1
        go_wp2_with fail
        refine bodyPost_ret (v := .tuple #[.slice none 0 0, .int .i64 1]) (by simp [results, Tryz.results30]) rfl ?_
        exact ⟨1, [], none, 0, HS, rfl, .nil, hbw⟩
      have d1 : decide (k < 1) = false := by simpa using k1
      by_cases k2 : k > 3
      case pos =>
        have HS := hbad (by omega)
        have d2 : decide (k > 3) = true := by simpa using k2
        clear hbad k1 k2
        go_wp2_with fail
        refine bodyPost_ret (v := .tuple #[.slice none 0 0, .int .i64 1]) (by simp [results, Tryz.results30]) rfl ?_
        exact ⟨1, [], none, 0, HS, rfl, .nil, hbw⟩
      have d2 : decide (k > 3) = false := by simp; omega
      have HK : Hid (1 ≤ k ∧ k ≤ 3) := Lib.hid ⟨by omega, by omega⟩
      clear hbad k1 k2
      obtain ⟨w2, hw2⟩ : ∃ w2, w2 = wr.alloc (Obj.cells #[.bool false] 4) := ⟨_, rfl⟩
      have hz2 : w2.heap.size = wr.heap.size + 1 := by rw [hw2]; simp
      have hb2 : Below w.heap.size w w2 := by rw [hw2]; exact ext_alloc hbw _
      have Bw : Blk w2 wr.heap.size 4 #[.bool false] := by rw [hw2]; exact Blk.new _ _ _
      have Ba := Ba.alloc (Obj.cells #[.bool false] 4); have Bb := Bb.alloc (Obj.cells #[.bool false] 4); have Bh := Bh.alloc (Obj.cells #[.bool false] 4)
      obtain ⟨u1, u2, u3⟩ := Ba.facts
      obtain ⟨v1, v2, v3⟩ := Bb.facts
      rw [← hw2] at Ba Bb Bh
      have HW2 := Lib.hid hw2
      have B5 := Blk.new w2 42 #[.slice A a.length c, .slice B b.length d]
      have hb3 := ext_alloc hb2 (Obj.cells #[.slice A a.length c, .slice B b.length d] 42)
      have hb23 := ext_alloc (Below.refl _ w2) (Obj.cells #[.slice A a.length c, .slice B b.length d] 42)
      have HLA := Lib.hid (mapErr_zero HMA.out); have HLB := Lib.hid (mapErr_zero HMB.out)
      have hE := edges_any w2.heap.size A B c d a b _ B5 (HA.out.ext hb3) (HB.out.ext hb3) (by have := HLA.out.1; omega) (by have := HLB.out.1; omega)
      rw [hz2] at hE
      clear hw2
      go_wp2_with fail
      rw [← HW2.out]
      refine hE.mono ?_
      rintro e w4 ⟨A4, c4, D, HD, rfl, hI4, hb4⟩
      have hb24 := ext_trans hb23 hb4
      have Ba := Ba.ext hb24; have Bb := Bb.ext hb24; have Bh := Bh.ext hb24; have Bw := Bw.ext hb24
      have hb4' := ext_trans hb3 hb4
      have hgw : w.heap.size + 1 + 1 + 1 ≤ wr.heap.size := by omega
      have hg4 : wr.heap.size < w4.heap.size := Bw.lt
      have hDl : D.length ≤ 10000 := by
        have h1 := HD.out.2.2
        rw [List.length_append, endsP_len, endsP_len] at h1
        have h2 := HLA.out.1
        have h3 := HLB.out.1
        omega
      have HTT := Lib.hid ((endsP_turns (l := a) HD.out.1 HD.out.2.1 fun _ h => List.mem_append_left _ h).map2 (bothO k) (nc := none) rfl (endsP_turns (l := b) HD.out.1 HD.out.2.1 fun _ h => List.mem_append_right _ h))
      have hT := each_gen 62 #[.pointer (some ⟨w.heap.size, 0, none⟩), .pointer (some ⟨w.heap.size + 1, 0, none⟩), .pointer (some ⟨w.heap.size + 1 + 1, 0, none⟩), .pointer (some ⟨wr.heap.size, 0, none⟩)] (mergeF k a b) hent A4 c4 D w4 hI4 hDl HD.out.1 HTT.out
        (fun t v hv => mergeF_i64 HMA.out HMB.out hv)
        (fun i W => Blk W wr.heap.size 4 #[.bool ((D.take i).any fun x => farO (mergeF k a b x))] ∧ Sib wr.heap.size w4 W)
        ⟨by simpa using Bw, Sib.refl _ _⟩ (fun i W h => h.2.ints hI4 Bw) (fun i W W' h hb => ⟨h.1.below hb hg4, h.2.more hb⟩)
        (fun i W x hJ hx hi => by
          have hbW := hJ.2.below hb4' (show w.heap.size ≤ wr.heap.size by omega) (by omega)
          refine (merge1_any A B c d w.heap.size (w.heap.size + 1) (w.heap.size + 1 + 1) wr.heap.size a b k x _ W HK.out ((hJ.2.blk Ba (by omega)).cell 0) ((hJ.2.blk Bb (by omega)).cell 0) ((hJ.2.blk Bh (by omega)).cell 0) hJ.1 (HA.out.ext hbW) (HB.out.ext hbW) HMA.out HMB.out).mono ?_
          rintro e w' ⟨he, w1', hb1', hor, hblk⟩
          have hs : Sib wr.heap.size W w' := by
            rcases hor with rfl | rfl
            · exact Sib.of_below hb1'
            · exact (Sib.of_below hb1').trans (Sib.store _ _ _)
          refine ⟨he, ⟨?_, hJ.2.trans hs⟩, hs.size, fun b' t' cs' ht hB' => hs.blk hB' (blk_ne hB' hJ.1 ht)⟩
          rw [List.take_add_one, hx, List.any_append]
          simpa using hblk)
      clear hDl hE hb3 hb23 hb24 hb4 hI4 u1 u2 u3 v1 v2 v3 h1 h2 h3
      go_wp2_with fail
      refine hT.mono ?_
      rintro e w5 ⟨er, out, A5, c5, i, HR, rfl, hI5, HJ5, hi1, hi2⟩
      have hI5 := hI5.since hb4'.size
      clear hT
      obtain ⟨fl, hfl⟩ : ∃ fl, ((D.take i).any fun x => farO (mergeF k a b x)) = fl := ⟨_, rfl⟩
      have HFL := Lib.hid hfl
      have hb5 := HJ5.out.2.below hb4' (show w.heap.size ≤ wr.heap.size by omega) (by omega)
      have B6 := HJ5.out.1
      rw [hfl] at B6
      obtain ⟨r1, r2, r3⟩ := B6.facts
      clear hfl hi2
      cases fl
      case true =>
        have HS : Hid (MergeSay k a b 5 []) := Lib.hid (MergeSay.mk_ HMA.out HMB.out HK.out (HR.out.wrong (far_some HFL.out)))
        go_wp2_with fail
        refine bodyPost_ret (v := .tuple #[.slice none 0 0, .int .i64 5]) (by simp [results, Tryz.results30]) rfl ?_
        exact ⟨5, [], none, 0, HS, rfl, .nil, hb5⟩
      case false =>
        have HS : Hid (MergeSay k a b er out) := Lib.hid (MergeSay.mk_ HMA.out HMB.out HK.out (HR.out.tells (far_at HD.out.1 HTT.out hi1 HFL.out)))
        go_wp2_with fail
        refine bodyPost_ret (v := .tuple #[.slice A5 out.length c5, .int .i64 er]) (by simp [results, Tryz.results30]) rfl ?_
        exact ⟨er, out, A5, c5, HS, rfl, hI5, hb5⟩
end Go.Proofs.YtdpibehpmghghaaGreat
