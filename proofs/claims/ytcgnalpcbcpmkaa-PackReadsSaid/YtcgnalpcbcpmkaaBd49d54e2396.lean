/- Several texts in one: Sized, BackSpec, Same2. -/
import Derived.SizedLaws
import Derived.ChangeMaps5
import Derived.Laws.IdiomStrings
import Derived.Laws.BytesArg
import Derived.Test.YtcgnalpcbcpmkaaBdac12786b2a
import Derived.Test.YtcgnalpcbcpmkaaBd784cba0449
import Derived.Test.YtcgnalpcbcpmkaaBd16b8a5747b
/- The reach: how long what is read can be. -/
namespace Go.Proofs.Ytcgnalpcbcpmkaa
open Go.ChangeShapes Go.WideShapes Go.RowKit Go.Deep Go.Joins
open Go.ChangeMaps (open_string)

section
variable {H : Type} {enc : TypeId × Value → H} {W : World} {spare : Nat → Bool} {held : Bool}
theorem sl_weight {t e : TypeId} (ht : Try.prog.underlying t = some (.slice e)) {fuel : Nat} {A : Option Addr} {n c : Nat} {x : DataW H × List MemPlace} (h : DataW.trod enc Try.prog W 0 spare held fuel t [.slice A n c] = some x) {R : Nat} (hR : ∀ k, k ∈ x.1.weights Try.prog t → k ≤ R) : n * Try.prog.bytesOf e ≤ R := by
  rcases open_slice ht h with ⟨h0, _⟩ | ⟨a, len, cap, m, n', D, Pl, hcs, _, hlc, hcm, hm, hx, hi⟩
  · obtain ⟨_, rfl, _⟩ : A = none ∧ n = 0 ∧ c = 0 := by simpa using h0
    simp
  · obtain ⟨_, rfl, _⟩ : A = some a ∧ n = len ∧ c = cap := by simpa using hcs
    rw [hx] at hR
    have := hR (((List.range n).map D).length + ((List.range (m - n)).map fun j => D (n + j)).length |>.mul (Try.prog.bytesOf e)) (by simp only [DataW.weights, ht]; exact List.mem_cons_self ..)
    refine Nat.le_trans ?_ this
    exact Nat.mul_le_mul_right _ (by simp)
set_option maxRecDepth 100000 in
theorem graph_sized {v : Value} {d : DataW H} {p : List MemPlace} {r : Reach} {b0 : Nat} (hv : Value.okWide Try.prog W r b0 28 v) (h : DataW.Trod enc Try.prog W 0 spare held 28 v d p) :
    ∃ A c A' c' g, v = gV A c A' c' g ∧ GraphAt W A c A' c' g ∧ ∀ R, (∀ k, k ∈ d.weights Try.prog 28 → k ≤ R) → g.lives.length * 16 ≤ R ∧ g.edges.length * 40 ≤ R := by
  obtain ⟨v0, v1, v2, y0, y1, y2, n, rfl, rfl, _, h0, h1, h2⟩ := open_agg3 Try.underlying28 (by kernel_rfl) (by kernel_rfl) hv h
  obtain ⟨x, hx, _, wx⟩ := DataW.trod_int Try.underlying3 h0
  obtain ⟨A, c, l, hA, h3, h4, h5⟩ := sl_open (R := RIvl) Try.underlying25 (by kernel_rfl) (by omega) el_ivl h1
  obtain ⟨A', c', l', hA', h3', h4', h5'⟩ := sl_open (R := REdge) Try.underlying26 (by kernel_rfl) (by omega) el_edge h2
  simp at hx hA hA'
  subst hx hA hA'
  refine ⟨A, c, A', c', ⟨x, l, l'⟩, rfl, ⟨i64_of_wf wx, h3, h4, h3', h4', h5, h5'⟩, fun R hR => ⟨?_, ?_⟩⟩
  · have := sl_weight Try.underlying25 h1 (R := R) (fun k hk => hR k ?_)
    · rwa [show Try.prog.bytesOf 110 = 16 by kernel_rfl] at this
    · simp only [DataW.weights, Try.underlying28, DataW.weightsEach, List.map_cons, List.mem_append]
      exact .inr (.inl hk)
  · have := sl_weight Try.underlying26 h2 (R := R) (fun k hk => hR k ?_)
    · rwa [show Try.prog.bytesOf 99 = 40 by kernel_rfl] at this
    · simp only [DataW.weights, Try.underlying28, DataW.weightsEach, List.map_cons, List.mem_append]
      exact .inr (.inr (.inl hk))
set_option maxRecDepth 100000 in
theorem string_sized {v : Value} {d : DataW H} {p : List MemPlace} {r : Reach} {b0 : Nat} (hv : Value.okWide Try.prog W r b0 9 v) (h : DataW.Trod enc Try.prog W 0 spare held 9 v d p) : ∃ s : ByteArray, v = .string s ∧ d = .lit (.string s.data.toList) := by
  obtain ⟨s, rfl, hd, _, _⟩ := open_string Try.underlying9 hv h
  exact ⟨s, rfl, hd⟩
theorem str_bound {s : ByteArray} (h : s.data.toList.length ≤ reachBytes) : s.size ≤ 140737488351232 := by
  have : s.size = s.data.toList.length := by simp
  rw [this]
  exact Nat.le_trans h (by decide)
theorem weights_reach {ts : List TypeId} {ds : List (DataW H)} (h : (DataW.weightsEach Try.prog ts ds).all (· ≤ reachBytes) = true) {j : Nat} {t : TypeId} {d : DataW H} (ht : ts[j]? = some t) (hd : ds[j]? = some d) : ∀ k, k ∈ d.weights Try.prog t → k ≤ reachBytes := fun k hk => by
  have := List.all_eq_true.1 h _ (DataW.weights_mem_each ht hd k hk)
  simpa using this
end
end Go.Proofs.Ytcgnalpcbcpmkaa
/- A byte turned is told; bytes of a string in memory. -/
namespace Go.Proofs.Ytcgnalpcbcpmkaa
open Go.RowKit

theorem coded_len (g : GraphD) : (coded g).size = 2 * (numsL g).length + 4 := by
  have h : (coded g).size = (bytesL (numsL g) ++ sumBytes (crc (strOfNums (bytesL (numsL g))))).length := by unfold coded; rw [strOfNums_size]
  rw [h, List.length_append, bytesL_len]
  rfl
/-- A string with one byte another. -/
def turnAt (s : ByteArray) (i : Nat) (x : Int) : List Int := (bytesFrom s 0 s.size).set i x
theorem turnAt_len (s : ByteArray) (i : Nat) (x : Int) : (turnAt s i x).length = s.size := by simp [turnAt, bytesFrom]
theorem turn_law {g : GraphD} {i : Nat} {x : Int} (hi : i < (coded g).size) (h0 : 0 ≤ x) (h1 : x < 256) (hx : x ≠ byteAt (coded g) i) (he : decErr (strOfNums (turnAt (coded g) i x)) = 0) : decOut (strOfNums (turnAt (coded g) i x)) ≠ g := by
  intro hg
  obtain ⟨s', hs'⟩ : ∃ s', s' = strOfNums (turnAt (coded g) i x) := ⟨_, rfl⟩
  rw [← hs'] at he hg
  have hz : s'.size = (coded g).size := by rw [hs', strOfNums_size, turnAt_len]
  have hb : (byteAt s' i : Int) = x := by
    have hl : i < (turnAt (coded g) i x).length := by rw [turnAt_len]; exact hi
    have e : (turnAt (coded g) i x)[i]'hl = x := by simp [turnAt]
    rw [hs', byteAt_nums hl (by rw [e]; exact h0) (by rw [e]; exact h1), e]
  obtain ⟨hle, hco⟩ := coded_dec he
  rw [show (rGraph s').1 = g by rw [← hg]; unfold decOut; rw [if_pos he]] at hco
  have hk : (coded g).size = decN s' := by
    have := congrArg ByteArray.size hco
    rw [ByteArray.size_extract] at this
    omega
  have hbb : byteAt (coded g) i = byteAt s' i := by rw [hco]; exact byteAt_extract (by omega) hle
  exact hx (by rw [hbb, hb])
theorem byteAt_getD (s : ByteArray) (i : Nat) (h : i < s.size) : (bytesFrom s 0 s.size).getD i 0 = (byteAt s i : Int) := by
  simp [bytesFrom, List.getD, h]

/-- A string's bytes lie in a block. -/
def BytesAt (w : World) (b : Nat) (xs : List Int) : Prop := ∃ cs t lo hi, w.heap[b]? = some (.cells cs t (lo, hi)) ∧ xs.length ≤ lo ∧ ∀ i, i < xs.length → cs[i]? = some (.int .u8 (xs.getD i 0))
section
variable {w w' : World} {b : Nat} {xs : List Int}
theorem BytesAt.lt (h : BytesAt w b xs) : b < w.heap.size := by
  obtain ⟨cs, t, lo, hi, h0, _, _⟩ := h
  rcases Nat.lt_or_ge b w.heap.size with hlt | hge
  · exact hlt
  · rw [Array.getElem?_eq_none hge] at h0; cases h0
theorem BytesAt.cell (h : BytesAt w b xs) {i : Nat} (hi : i < xs.length) : w.cell? ⟨b, i, none⟩ = some (.int .u8 (xs.getD i 0)) := by
  obtain ⟨cs, t, lo, hh, h0, _, h2⟩ := h
  rw [cell_of_row w b i cs t (lo, hh) h0]
  exact h2 i hi
theorem BytesAt.frozen (h : BytesAt w b xs) {i : Nat} (hi : i < xs.length) : w.frozen? ⟨b, i, none⟩ = false := by
  obtain ⟨cs, t, lo, hh, h0, h1, _⟩ := h
  simp only [World.frozen?, h0]
  simp only [Bool.and_eq_false_iff, decide_eq_false_iff_not]
  omega
theorem BytesAt.drewN (h : BytesAt w b xs) (n : Nat) : BytesAt (w.drewN n) b xs := h
theorem BytesAt.ext (h : BytesAt w b xs) (hb : Below w.heap.size w w') : BytesAt w' b xs := by
  have hl := h.lt
  obtain ⟨cs, t, lo, hh, h0, h1, h2⟩ := h
  exact ⟨cs, t, lo, hh, (hb.block b hl).trans h0, h1, h2⟩
theorem BytesAt.new (w : World) (s : ByteArray) (cap : Nat) (t : TypeId) : BytesAt (w.alloc (.cells (bytesRow s cap) t ((bytesRow s cap).size, (bytesRow s cap).size + 1))) w.heap.size (bytesFrom s 0 s.size) := by
  refine ⟨_, _, _, _, heap_alloc_new w _, ?_, fun i hi => ?_⟩
  · unfold bytesRow
    rw [Array.size_append, Array.size_map]
    simp only [bytesFrom, List.length_map, List.length_range]
    exact Nat.le_add_right _ _
  · have hi' : i < s.size := by simpa [bytesFrom] using hi
    rw [bytesRow_at s cap i hi', byteAt_getD s i hi', byteAt_of hi']
    rfl
theorem BytesAt.set_ (h : BytesAt w b xs) {i : Nat} (hi : i < xs.length) (x : Int) : BytesAt (w.setCell ⟨b, i, none⟩ (.int .u8 x)) b (xs.set i x) := by
  obtain ⟨cs, t, lo, hh, h0, h1, h2⟩ := h
  refine ⟨cs.setIfInBounds i (.int .u8 x), t, lo, hh, ?_, by simpa using h1, fun j hj => ?_⟩
  · show (w.heap.modify b _)[b]? = _
    rw [Array.getElem?_modify, if_pos rfl, h0]
    rfl
  · have hj' : j < xs.length := by simpa using hj
    have hc := h2 i hi
    have hci : i < cs.size := by
      rcases Nat.lt_or_ge i cs.size with h | h
      · exact h
      · rw [Array.getElem?_eq_none h] at hc; cases hc
    by_cases e : i = j
    · subst e
      simp [hci, List.getD, hi]
    · have := h2 j hj'
      simp [List.getD, e, Array.getElem?_setIfInBounds_ne, this, List.getElem?_eq_getElem hj']
set_option maxRecDepth 100000 in
theorem BytesAt.str (h : BytesAt w b xs) (cap : Nat) : (Go.convert 105 9 (.slice (some ⟨b, 0, none⟩) xs.length cap)).run Try.prog w = .ok (.string (strOfNums xs)) w :=
  run_convert_bytes_arg w 105 5 Try.underlying105 Try.underlying5 b 0 _ cap xs rfl (fun i hi => by rw [Nat.zero_add]; exact h.cell hi) 9 Try.underlying9
end
theorem xor_two_ne (a k : Nat) : a ^^^ 2 ^ k ≠ a := by
  intro h
  have e : a ^^^ (a ^^^ 2 ^ k) = a ^^^ a := by rw [h]
  rw [← Nat.xor_assoc, Nat.xor_self, Nat.zero_xor] at e
  have := Nat.two_pow_pos k
  omega
theorem wraps_u8 (n : Int) (h0 : 0 ≤ n) (h1 : n < 2 ^ 8) : IntKind.u8.wrap n = n := by rw [IntKind.wrap_u8]; omega
theorem xor_u8 (a k : Nat) (ha : a < 256) (hk : k < 8) : bits .xor .u8 (a : Int) ((2 ^ k : Nat) : Int) = ((a ^^^ 2 ^ k : Nat) : Int) ∧ a ^^^ 2 ^ k < 256 := by
  have hb : 2 ^ k < 256 := Nat.pow_lt_pow_right (by decide) hk
  refine ⟨?_, Nat.xor_lt_two_pow (n := 8) (by omega) (by omega)⟩
  have ha' : a % 2 ^ IntKind.u8.bits = a := Nat.mod_eq_of_lt ha
  have hb' : (2 ^ k) % 2 ^ IntKind.u8.bits = 2 ^ k := Nat.mod_eq_of_lt hb
  have hx : a ^^^ 2 ^ k < 2 ^ 8 := Nat.xor_lt_two_pow (by omega) (by omega)
  simp only [bits, BitVec.ofInt_natCast, BitVec.toNat_xor, BitVec.toNat_ofNat, ha', hb']
  exact wraps_u8 _ (Int.natCast_nonneg _) (by exact_mod_cast hx)
end Go.Proofs.Ytcgnalpcbcpmkaa
/- The walk of the document's SameGraph, for any two graphs. -/
namespace Go.Proofs.Ytcgnalpcbcpmkaa
open Go.RowKit

set_option maxHeartbeats 2000000 in
theorem sameGraph2_any (A A' B B' : Option Addr) (c c' d d' : Nat) (x y : GraphD) (w : World) (hA : GraphAt w A c A' c' x) (hB : GraphAt w B d B' d' y) :
    Calls Try.prog 63 #[gV A c A' c' x, gV B d B' d' y] w fun e w' => ∃ b : Bool, (b = true ↔ x = y) ∧ e = .returned (.bool b) ∧ Below w.heap.size w w' := by
  have m1 : x.lives.length ≤ maxLen := Nat.le_trans hA.lc hA.cm
  have m2 : x.edges.length ≤ maxLen := Nat.le_trans hA.lc' hA.cm'
  have n1 : y.lives.length ≤ maxLen := Nat.le_trans hB.lc hB.cm
  have n2 : y.edges.length ≤ maxLen := Nat.le_trans hB.lc' hB.cm'
  by_cases h1 : x.h = y.h
  case neg =>
    have hn : (x.h == y.h) = false := by simp [h1]
    have HX : Hid (¬ x = y) := Lib.hid fun h => h1 (by rw [h])
    clear h1
    go_enter Try.func63, Try.ntmps63
    go_wp2_with fail
    go_ret
    exact ⟨false, by simp [HX.out], rfl, by go_grown⟩
  have hn1 : (x.h == y.h) = true := by simp [h1]
  have H1 := Lib.hid h1
  clear h1
  go_enter Try.func63, Try.ntmps63
  go_wp2_with fail
  refine (equalIvls_any A B c d x.lives y.lives _ (hA.lives.ext RIvl.stable (by go_grown)) (hB.lives.ext RIvl.stable (by go_grown)) m1 n1).mono ?_
  rintro e w1 ⟨rfl, hb1⟩
  obtain ⟨B0, c1, c2, c3⟩ := Blk.go (g := w.heap.size) (t := 28) (cs := gC A c A' c' x) ((Blk.new _ _ _).alloc _) hb1
  obtain ⟨B1, e1, e2, e3⟩ := Blk.go (g := w.heap.size + 1) (t := 28) (cs := gC B d B' d' y) (Blk.new_ (by simp)) hb1
  have hbw : Below w.heap.size w w1 := ext_trans (by go_grown) hb1
  clear hb1
  by_cases h2 : x.lives = y.lives
  case neg =>
    have HX : Hid (¬ x = y) := Lib.hid fun h => h2 (by rw [h])
    rw [decide_eq_false h2]
    clear h2
    go_wp2_with fail
    go_ret
    exact ⟨false, by simp [HX.out], rfl, hbw⟩
  rw [decide_eq_true h2]
  have H2 := Lib.hid h2
  clear h2
  go_wp2_with fail
  refine (equalEdges_any A' B' c' d' x.edges y.edges _ (hA.edges.ext REdge.stable hbw) (hB.edges.ext REdge.stable hbw) m2 n2).mono ?_
  rintro e w2 ⟨rfl, hb2⟩
  have hbw := ext_trans hbw hb2
  have HX : Hid (decide (x.edges = y.edges) = true ↔ x = y) := Lib.hid (by rw [decide_eq_true_eq, graph_eq]; exact ⟨fun h => ⟨H1.out, H2.out, h⟩, fun h => h.2.2⟩)
  generalize decide (x.edges = y.edges) = b at *
  go_wp2_with fail
  go_ret
  exact ⟨b, HX.out, rfl, hbw⟩
end Go.Proofs.Ytcgnalpcbcpmkaa
