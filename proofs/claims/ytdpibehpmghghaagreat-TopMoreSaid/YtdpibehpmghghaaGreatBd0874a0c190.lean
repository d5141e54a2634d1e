/- Several texts in one: FillStep, SumSpec, PackSpec, Nums, PairEarly. -/
import Derived.Laws.BitsLemmas
import Derived.Laws.BytesArg
import Derived.Test.YtdpibehpmghghaaGreatBd4302d582b3
import Derived.Test.YtdpibehpmghghaaGreatBdcd95ff1835
import Derived.Test.YtdpibehpmghghaaGreatBd615d7ca311
import Derived.Test.YtdpibehpmghghaaGreatBd3944ca27eb
import Derived.Test.YtdpibehpmghghaaGreatBd87574eba69
import Derived.Test.YtdpibehpmghghaaGreatBd127ac6da48
import Derived.Test.YtdpibehpmghghaaGreatBdcc6882d3e7
import Derived.Test.YtdpibehpmghghaaGreatBdbaf55b473b
import Derived.Test.YtdpibehpmghghaaGreatBd8ba506424c
/- The steps of the filling in, as the program takes them; what lies in memory meanwhile. -/
namespace Go.Proofs.YtdpibehpmghghaaGreat
open Go.RowKit

section
variable {g : GraphD} {wt : LegD → Int} {v s : Int} {t u i : Nat} {B : Tab Int} {O : Tab OrigD}
theorem FillInv.putWait (h : FillInv g wt v s t u false 0 B O) {m : Int} (hm : B (u, t) = some m) (hu : u < g.lives.length) (h1 : (t : Int) + 1 < g.h) (ha : aliveB g u ((t : Int) + 1) = true) :
    FillInv g wt v s t u true 0 (lessF B B (u, t + 1) m m) (lessF B O (u, t + 1) m ⟨u, t, 0, 0, false⟩) ∧ lessF B B (u, t + 1) m m (u, t) = some m := by
  obtain ⟨_, _, _, _, k1, k2⟩ := h.told _ _ hm
  obtain ⟨a1, a2, a3⟩ := h.put hm (p := (u, t + 1)) (n := m) (f := fun n => n) (.inl ⟨u, t, rfl, hu, h1, ha⟩) rfl hu (by simp only; omega) (by simp only; omega) (by simpa using ha) k1 (by simp only at k2 ⊢; omega) (o := ⟨u, t, 0, 0, false⟩)
    (.inl ⟨rfl, rfl, by simp, by simp, rfl, rfl, by simpa using hm⟩) (by simp)
  have a4 := a3 (u, t) (Nat.le_refl _)
  refine ⟨a1.wait fun _ _ => ?_, by rw [a4]; exact hm⟩
  rw [vT_some (show lessF B B (u, t + 1) m m (u, t) = some m by rw [a4]; exact hm)]
  exact a2
theorem FillInv.putEdge (hV : Valid g) (hw : Light g wt) (h : FillInv g wt v s t u true i B O) {m : Int} (hm : B (u, t) = some m) {x : EdgeD} (hx : g.edges[i]? = some x) (hxa : x.a = u) {l : LegD} {to : Int} (harr : arrive g x t = some (l, to)) :
    FillInv g wt v s t u true (i + 1) (lessF B B (x.b.toNat, to.toNat) (m + wt l) (m + wt l)) (lessF B O (x.b.toNat, to.toNat) (m + wt l) ⟨u, t, i, t, true⟩) ∧ lessF B B (x.b.toNat, to.toNat) (m + wt l) (m + wt l) (u, t) = some m := by
  obtain ⟨_, _, _, _, k1, k2⟩ := h.told _ _ hm
  have hmem := List.mem_of_getElem? hx
  have ho := hV.edges x hmem
  have b0 := ho.b0; have b1 := ho.b1
  have hl := arrive_late hV ho harr
  have hs := arrive_some harr
  have hwl := hw x hmem l hs.1
  have hu : u = x.a.toNat := by omega
  have e1 : ((x.b.toNat : Nat) : Int) = x.b := by omega
  have e2 : ((to.toNat : Nat) : Int) = to := by omega
  obtain ⟨a1, a2, a3⟩ := h.put hm (p := (x.b.toNat, to.toNat)) (n := m + wt l) (f := fun n => n + wt l) (.inr ⟨x, l, to, t, hmem, harr, by rw [← hu]⟩) rfl (by simp only; omega) (by simp only; omega) (by simp only; omega) (by simp only [e1, e2]; exact hs.2.2.2.2.2.2) (by omega) (by simp only at k2 ⊢; omega) (o := ⟨u, t, i, t, true⟩)
    (.inr ⟨rfl, i, x, l, m, rfl, hx, hxa.symm, e1.symm, rfl, by simp, by simp only [e2]; exact harr, by rw [← hu]; simpa using hm, rfl⟩) (by simp)
  have a4 := a3 (u, t) (Nat.le_refl _)
  refine ⟨a1.edge hx fun _ l' to' h' => ?_, by rw [a4]; exact hm⟩
  rw [harr] at h'
  simp only [Option.some.injEq, Prod.mk.injEq] at h'
  obtain ⟨rfl, rfl⟩ := h'
  rw [vT_some (show lessF B B (x.b.toNat, to.toNat) (m + wt l) (m + wt l) (u, t) = some m by rw [a4]; exact hm)]
  exact a2
theorem FillInv.small {ww : Bool} (hV : Valid g) (h : FillInv g wt v s t u ww i B O) {p : Nat × Nat} {m : Int} (hm : B p = some m) : 0 ≤ m ∧ m ≤ 100000 := by
  obtain ⟨_, _, k, _, k1, k2⟩ := h.told _ _ hm
  have := hV.h1
  omega
end
/-- What lies in memory while a table is filled in. -/
structure FMem (g0 tb b1 b2 n : Nat) (gc : Array Value) (w0 : World) (B : Tab Int) (O : Tab OrigD) (w : World) : Prop where
  tab : Blk w tb 172 #[.map (some b1), .map (some b2)]
  best : TabAt iV2 w b1 n B
  orig : TabAt origV w b2 n O
  gr : Blk w g0 25 gc
  bel : Below w0.heap.size w0 w
section
variable {g0 tb b1 b2 n : Nat} {gc : Array Value} {w0 w w' : World} {B : Tab Int} {O : Tab OrigD}
theorem FMem.alloc (h : FMem g0 tb b1 b2 n gc w0 B O w) (o : Obj) : FMem g0 tb b1 b2 n gc w0 B O (w.alloc o) := ⟨h.tab.alloc o, h.best.alloc o, h.orig.alloc o, h.gr.alloc o, ext_alloc h.bel o⟩
theorem FMem.mono (h : FMem g0 tb b1 b2 n gc w0 B O w) {m : Nat} (hn : n ≤ m) : FMem g0 tb b1 b2 m gc w0 B O w := ⟨h.tab, h.best.mono hn, h.orig.mono hn, h.gr, h.bel⟩
theorem TabAt.ext {α : Type} {enc : α → Value} {b : Nat} {F : Tab α} (h : TabAt enc w b n F) (hb : Below w.heap.size w w') : TabAt enc w' b n F := h.heap (hb.block b h.lt)
theorem FMem.ext (h : FMem g0 tb b1 b2 n gc w0 B O w) (hb : Below w.heap.size w w') : FMem g0 tb b1 b2 n gc w0 B O w' := ⟨h.tab.ext hb, h.best.ext hb, h.orig.ext hb, h.gr.ext hb, ext_trans h.bel hb⟩
theorem FMem.turned (h : FMem g0 tb b1 b2 n gc w0 B O w) (hT : w.mapTurned w' b1) {m : Nat} {B' : Tab Int} (hB : TabAt iV2 w' b1 m B') (hn : n ≤ m) (hne : b1 ≠ b2) (h1 : w0.heap.size ≤ b1) : FMem g0 tb b1 b2 m gc w0 B' O w' :=
  ⟨h.tab.turned hT (TabAt.noBlk h.best h.tab), hB, (h.orig.mono hn).grown hT.grown (by simpa using hne.symm), h.gr.turned hT (TabAt.noBlk h.best h.gr), below_turned h.bel hT h.bel.size h1⟩
theorem FMem.made {gc : Array Value} (w : World) : FMem w.heap.size (w.heap.size + 1 + 1 + 1) (w.heap.size + 1) (w.heap.size + 1 + 1) 0 gc w (fun _ => none) (fun _ => none)
    ((((w.alloc (Obj.cells gc 25)).alloc (Obj.map #[] 0)).alloc (Obj.map #[] 0)).alloc (Obj.cells #[.map (some (w.heap.size + 1)), .map (some (w.heap.size + 1 + 1))] 172)) := by
  refine ⟨Blk.new_ (by simp), ?_, ?_, (((Blk.new w 25 gc).alloc _).alloc _).alloc _, by go_grown⟩
  · have := TabAt.made iV2 (w.alloc (Obj.cells gc 25))
    rw [show (w.alloc (Obj.cells gc 25)).heap.size = w.heap.size + 1 by simp] at this
    exact (this.alloc _).alloc _
  · have := TabAt.made origV ((w.alloc (Obj.cells gc 25)).alloc (Obj.map #[] 0))
    rw [show ((w.alloc (Obj.cells gc 25)).alloc (Obj.map #[] 0)).heap.size = w.heap.size + 1 + 1 by simp] at this
    exact this.alloc _
theorem FMem.less (h : FMem g0 tb b1 b2 n gc w0 B O w) (h1 : w0.heap.size ≤ b1) (h2 : w0.heap.size ≤ b2) {p : Nat × Nat} {m : Int} {o : OrigD} (hL : LessOut tb b1 b2 n B O p m o w w') : FMem g0 tb b1 b2 (n + 1) gc w0 (lessF B B p m m) (lessF B O p m o) w' :=
  ⟨hL.blks _ _ _ h.tab, hL.best, hL.orig, hL.blks _ _ _ h.gr, hL.below _ _ h.bel h1 h2 h.bel.size⟩
theorem FMem.less_any (h : FMem g0 tb b1 b2 n gc w0 B O w) (h1 : w0.heap.size ≤ b1) (h2 : w0.heap.size ≤ b2) (hne : b1 ≠ b2) (hn : n < 1000000) {p : Nat × Nat} {m : Int} {o : OrigD} (hp : Sml p) (hm : m < Never) {kx kt : Int} (hx : kx = (p.1 : Int)) (ht : kt = (p.2 : Int)) :
    Calls Tryz.prog 109 #[.pointer (some ⟨tb, 0, none⟩), .agg #[.int .i64 kx, .int .i64 kt], .int .i64 m, .agg #[.int .i64 o.v, .int .i64 o.t, .int .i64 o.edge, .int .i64 o.depart, .bool o.hops]] w
      (fun e w' => e = .returned (.tuple #[]) ∧ FMem g0 tb b1 b2 (n + 1) gc w0 (lessF B B p m m) (lessF B O p m o) w' ∧ ∀ g t cs, Blk w g t cs → Blk w' g t cs) := by
  subst hx ht
  exact (YtdpibehpmghghaaGreat.less_any tb b1 b2 n B O p m o w h.tab h.best h.orig hne hp hn hm).mono fun e w' ⟨he, hL⟩ => ⟨he, h.less h1 h2 hL, hL.blks⟩
theorem FMem.look (h : FMem g0 tb b1 b2 n gc w0 B O w) {p : Nat × Nat} (hp : Sml p) {kx kt : Int} (hx : kx = (p.1 : Int)) (ht : kt = (p.2 : Int)) :
    (Instr.lookup 169 (.map (some b1)) (.agg #[.int .i64 kx, .int .i64 kt]) true).run Tryz.prog w = .ok (.tuple #[((B p).map iV2).getD (.int .i64 0), .bool (B p).isSome]) w := by
  subst hx ht
  exact h.best.look Tryz.underlying169 (zero_best w) hp
end
end Go.Proofs.YtdpibehpmghghaaGreat
/- The sum of bytes, as a plain Lean function; the laws of bits that its walks need. No program in sight. -/
namespace Go.Proofs.YtdpibehpmghghaaGreat
open Go.RowKit

theorem wraps_u32 (n : Int) (h0 : 0 ≤ n) (h1 : n < 2 ^ 32) : IntKind.u32.wrap n = n := by rw [IntKind.wrap_u32]; omega
theorem xor_u32 (a b : Nat) (ha : a < 4294967296) (hb : b < 4294967296) : bits .xor .u32 (a : Int) (b : Int) = ((a ^^^ b : Nat) : Int) := by
  have ha' : a % 2 ^ IntKind.u32.bits = a := Nat.mod_eq_of_lt ha
  have hb' : b % 2 ^ IntKind.u32.bits = b := Nat.mod_eq_of_lt hb
  have hx : a ^^^ b < 2 ^ 32 := Nat.xor_lt_two_pow ha hb
  simp only [bits, BitVec.ofInt_natCast, BitVec.toNat_xor, BitVec.toNat_ofNat, ha', hb']
  exact wraps_u32 _ (Int.natCast_nonneg _) (by exact_mod_cast hx)
theorem and_u32 (a : Nat) (ha : a < 4294967296) : bits .and .u32 (a : Int) 1 = ((a % 2 : Nat) : Int) := by
  have h := (bits_nat .u32 32 (by decide) wraps_u32 a 1 (by omega) (by decide)).1
  rw [Nat.and_one_is_mod] at h
  exact h

def poly : Nat := 3988292384
/-- One bit. -/
def crcBit (r c : Nat) : Nat := if r % 2 = c % 2 then r / 2 else (r / 2) ^^^ poly
/-- n bits of a byte, from number k on. -/
def crcB : Nat → Nat → Nat → Nat → Nat
  | 0, _, r, _ => r
  | n + 1, k, r, b => crcB n (k + 1) (crcBit r (b / 2 ^ k)) b
def byteAt (s : ByteArray) (k : Nat) : Nat := if h : k < s.size then s[k].toNat else 0
theorem byteAt_of {s : ByteArray} {k : Nat} (h : k < s.size) : byteAt s k = s[k].toNat := by simp [byteAt, h]
theorem byteAt_lt (s : ByteArray) (k : Nat) : byteAt s k < 256 := by
  unfold byteAt
  split
  · exact UInt8.toNat_lt _
  · omega
/-- What the first k bytes leave. -/
def crcF (s : ByteArray) : Nat → Nat
  | 0 => 4294967295
  | k + 1 => crcB 8 0 (crcF s k) (byteAt s k)
def crc (s : ByteArray) : Nat := 4294967295 - crcF s s.size
theorem crcBit_lt {r c : Nat} (h : r < 4294967296) : crcBit r c < 4294967296 := by
  unfold crcBit
  split
  · omega
  · exact Nat.xor_lt_two_pow (n := 32) (by omega) (by decide)
theorem crcB_lt : ∀ (n k r b : Nat), r < 4294967296 → crcB n k r b < 4294967296
  | 0, _, _, _, h => h
  | n + 1, k, _, b, h => crcB_lt n (k + 1) _ b (crcBit_lt h)
theorem crcF_lt (s : ByteArray) : ∀ k, crcF s k < 4294967296
  | 0 => by simp [crcF]
  | k + 1 => crcB_lt _ _ _ _ (crcF_lt s k)
theorem xor_low {r c : Nat} : (r ^^^ c) % 2 = if r % 2 = c % 2 then 0 else 1 := by
  have h := @Nat.xor_mod_two_eq_one r c
  split
  · rename_i h1
    rcases Nat.mod_two_eq_zero_or_one (r ^^^ c) with h2 | h2
    · exact h2
    · exfalso; rw [h, h1] at h2; exact h2 Iff.rfl
  · rename_i h1
    rw [h]
    omega
theorem xor_half {r b k : Nat} : (r ^^^ (b / 2 ^ k)) / 2 = (r / 2) ^^^ (b / 2 ^ (k + 1)) := by
  rw [Nat.xor_div_two, Nat.div_div_eq_div_mul, ← Nat.pow_succ]
theorem xor_half_poly {r b k : Nat} : ((r ^^^ (b / 2 ^ k)) / 2) ^^^ poly = ((r / 2) ^^^ poly) ^^^ (b / 2 ^ (k + 1)) := by
  rw [xor_half, Nat.xor_assoc, Nat.xor_comm (b / 2 ^ (k + 1)) poly, ← Nat.xor_assoc]
theorem xor_not {r : Nat} (h : r < 4294967296) : 4294967295 ^^^ r = 4294967295 - r := by
  have e : 2 ^ 32 - (r + 1) = 4294967295 - r := by omega
  rw [← e]
  apply Nat.eq_of_testBit_eq
  intro i
  rw [Nat.testBit_two_pow_sub_succ (n := 32) h, Nat.testBit_xor, show (4294967295 : Nat) = 2 ^ 32 - 1 by rfl, Nat.testBit_two_pow_sub_one]
  by_cases hi : i < 32
  · simp [hi]
  · have : r.testBit i = false := Nat.testBit_lt_two_pow (Nat.lt_of_lt_of_le h (show (2 : Nat) ^ 32 ≤ 2 ^ i from Nat.pow_le_pow_right (by decide) (by omega)))
    simp [hi, this]
end Go.Proofs.YtdpibehpmghghaaGreat
/- A graph's numbers and bytes, as plain Lean functions; no program in sight. -/
namespace Go.Proofs.YtdpibehpmghghaaGreat
open Go.RowKit

def lifeNums (l : IvlD) : List Int := [l.f, l.t]
def legNums (l : LegD) : List Int := [l.f, l.t, l.time, l.cost]
def edgeNums (x : EdgeD) : List Int := [x.a, x.b, (x.legs.length : Int)] ++ x.legs.flatMap legNums
/-- P23: the numbers of a graph. -/
def numsL (g : GraphD) : List Int := [g.h, (g.lives.length : Int), (g.edges.length : Int)] ++ (g.lives.flatMap lifeNums ++ g.edges.flatMap edgeNums)
def bytesL (l : List Int) : List Int := l.flatMap fun n => [n / 256, n % 256]
def sumBytes (n : Nat) : List Int := [((n % 256 : Nat) : Int), ((n / 256 % 256 : Nat) : Int), ((n / 65536 % 256 : Nat) : Int), ((n / 16777216 % 256 : Nat) : Int)]
/-- P23: the bytes of a graph. -/
def coded (g : GraphD) : ByteArray := strOfNums (bytesL (numsL g) ++ sumBytes (crc (strOfNums (bytesL (numsL g)))))

def Num (n : Int) : Prop := 0 ≤ n ∧ n ≤ 1000
theorem len_flatMap_le {α β : Type} {f : α → List β} {m : Nat} : ∀ (l : List α), (∀ x, x ∈ l → (f x).length ≤ m) → (l.flatMap f).length ≤ l.length * m
  | [], _ => by simp
  | x :: l, h => by
    have h1 := h x (by simp)
    have h2 := len_flatMap_le l fun y hy => h y (by simp [hy])
    rw [List.flatMap_cons, List.length_append, List.length_cons, Nat.succ_mul]
    omega
theorem nums_edge {g : GraphD} (hV : Valid g) {x : EdgeD} (hx : x ∈ g.edges) : (∀ n, n ∈ edgeNums x → Num n) ∧ (edgeNums x).length ≤ 27 := by
  have h := hV.edges x hx
  have h1 := h.a0; have h2 := h.a1; have h3 := h.b0; have h4 := h.b1; have h5 := h.six
  have h6 := hV.nl; have h7 := hV.h1
  constructor
  · intro n hn
    unfold edgeNums at hn
    rw [List.mem_append] at hn
    rcases hn with hn | hn
    · simp at hn
      unfold Num
      omega
    · obtain ⟨l, hl, hn⟩ := List.mem_flatMap.1 hn
      have := h.legs l hl
      simp [legNums] at hn
      unfold Num
      omega
  · have := len_flatMap_le (f := legNums) (m := 4) x.legs (fun _ _ => by simp [legNums])
    unfold edgeNums
    simp only [List.length_append, List.length_cons, List.length_nil]
    omega
theorem nums_num {g : GraphD} (hV : Valid g) : (∀ n, n ∈ numsL g → Num n) ∧ (numsL g).length ≤ 900 := by
  have h6 := hV.nl; have h7 := hV.h1; have h8 := hV.ne; have h9 := hV.h0
  constructor
  · intro n hn
    unfold numsL at hn
    rw [List.mem_append, List.mem_append] at hn
    rcases hn with hn | hn | hn
    · simp at hn
      unfold Num
      omega
    · obtain ⟨l, hl, hn⟩ := List.mem_flatMap.1 hn
      have := hV.lives l hl
      simp [lifeNums] at hn
      unfold Num
      omega
    · obtain ⟨x, hx, hn⟩ := List.mem_flatMap.1 hn
      exact (nums_edge hV hx).1 n hn
  · have h1 := len_flatMap_le (f := lifeNums) (m := 2) g.lives (fun _ _ => by simp [lifeNums])
    have h2 := len_flatMap_le (f := edgeNums) (m := 27) g.edges (fun x hx => (nums_edge hV hx).2)
    unfold numsL
    simp only [List.length_append, List.length_cons, List.length_nil]
    omega
end Go.Proofs.YtdpibehpmghghaaGreat
/- The walk of the document's numbers: it tells numsL. -/
namespace Go.Proofs.YtdpibehpmghghaaGreat
open Go.RowKit

theorem info_parts' {i : Option TypeInfo} {v : Value} {a b : Nat} (h : i.map (fun i => (i.zero, i.size, i.bytes)) = some (some v, a, b)) : ∃ i0, i = some i0 ∧ i0.zero = some v ∧ i0.size = a ∧ i0.bytes = b := by
  cases i with
  | none => simp at h
  | some i0 => simp at h; exact ⟨i0, rfl, h⟩
def intEncN (n : Int) : List Value := [.int .i64 n]
theorem int_one1N {a : Int} : ∀ u ∈ (#[.int .i64 a] : Array Value).toList, u.oneCell' = true := by simp [Value.oneCell']
theorem int_one2N {a b : Int} : ∀ u ∈ (#[.int .i64 a, .int .i64 b] : Array Value).toList, u.oneCell' = true := by simp [Value.oneCell']
theorem int_one3 {a b c : Int} : ∀ u ∈ (#[.int .i64 a, .int .i64 b, .int .i64 c] : Array Value).toList, u.oneCell' = true := by simp [Value.oneCell']
theorem int_one4 {a b c d : Int} : ∀ u ∈ (#[.int .i64 a, .int .i64 b, .int .i64 c, .int .i64 d] : Array Value).toList, u.oneCell' = true := by simp [Value.oneCell']

theorem own_intsN {w : World} {base : Nat} {v : Value} {l : List Int} (h : Own intEncN 1 w base 3 v l) (hi : ∀ x, x ∈ l → I64 x) : ∃ A c, v = .slice A l.length c ∧ SlAt RInt 1 w A l :=
  h.slAt (fun _ => rfl) fun x hx b o hc => ⟨by simpa using hc 0 _ rfl, hi x hx⟩
theorem num_i64 {n : Int} (h : Num n) : I64 n := by unfold Num at h; unfold I64; omega
end Go.Proofs.YtdpibehpmghghaaGreat
/- The earliest and the latest times of the pair; no program in sight. -/
namespace Go.Proofs.YtdpibehpmghghaaGreat

theorem pair_valid : Valid pairG := valid_of (by decide)
theorem pair_early {l : List Int} (h : EarlyL pairG 0 0 l) : l = [0, 4] := by
  have hV := pair_valid
  have hx := hV.edges ⟨0, 1, [⟨1, 4, 3, 7⟩]⟩ (by simp [pairG])
  refine h.eq ⟨rfl, ⟨fun i => ?_, ?_⟩, fun e he i => ?_⟩
  · match i with
    | 0 => decide
    | 1 => decide
    | n + 2 => rw [gi_far (by simp), startE_far (by simp [pairG])]; exact Int.le_refl _
  · intro x hx
    obtain ⟨y, hy, rfl⟩ := mem_arcsE.1 hx
    simp [pairG] at hy
    subst hy
    decide
  · have h0 := he.1 0
    have h1 := he.2 (arcE pairG ⟨0, 1, [⟨1, 4, 3, 7⟩]⟩) (mem_arcsE.2 ⟨_, by simp [pairG], rfl⟩)
    have e0 : gi (startE pairG 0 0) 0 = 0 := by decide
    rw [e0] at h0
    have h2 := earlyF_mono hV hx (e 0) 0 h0
    have e1 : earlyF pairG ⟨0, 1, [⟨1, 4, 3, 7⟩]⟩ 0 = 4 := by decide
    rw [e1] at h2
    simp only [arcE] at h1
    match i with
    | 0 => show e 0 ≤ 0; omega
    | 1 => show e 1 ≤ 4; exact Int.le_trans h1 h2
    | n + 2 =>
      have := he.1 (n + 2)
      rw [startE_far (by simp [pairG])] at this
      rw [gi_far (by simp)]
      exact this
theorem pair_late {l : List Int} (h : LateL pairG 1 5 l) : l = [2, 5] := by
  have hV := pair_valid
  have hx := hV.edges ⟨0, 1, [⟨1, 4, 3, 7⟩]⟩ (by simp [pairG])
  refine h.eq ⟨rfl, ⟨fun i => ?_, ?_⟩, fun e he i => ?_⟩
  · match i with
    | 0 => decide
    | 1 => decide
    | n + 2 => show - gi [2, 5] (n + 2) ≤ - gi (startL pairG 1 5) (n + 2); rw [gi_far (by simp), startL_far (by simp [pairG])]; exact Int.le_refl _
  · intro x hx
    obtain ⟨y, hy, rfl⟩ := mem_arcsD.1 hx
    simp [pairG] at hy
    subst hy
    decide
  · have h0 := he.1 1
    have h1 := he.2 (arcD pairG ⟨0, 1, [⟨1, 4, 3, 7⟩]⟩) (mem_arcsD.2 ⟨_, by simp [pairG], rfl⟩)
    have e0 : - gi (startL pairG 1 5) 1 = -5 := by decide
    have h0 : e 1 ≤ -5 := by rw [← e0]; exact h0
    have h2 := lastT_mono (s := 5) (t := - e 1) hV hx (by omega)
    have e1 : lastT pairG ⟨0, 1, [⟨1, 4, 3, 7⟩]⟩ 5 = 2 := by decide
    rw [e1] at h2
    simp only [arcD] at h1
    match i with
    | 0 => show e 0 ≤ -2; exact Int.le_trans h1 (by show - lastT pairG ⟨0, 1, [⟨1, 4, 3, 7⟩]⟩ (- e 1) ≤ -2; omega)
    | 1 => show e 1 ≤ -5; omega
    | n + 2 =>
      have : e (n + 2) ≤ - gi (startL pairG 1 5) (n + 2) := he.1 (n + 2)
      rw [startL_far (by simp [pairG])] at this
      show e (n + 2) ≤ - gi [2, 5] (n + 2)
      rw [gi_far (by simp)]
      exact this
end Go.Proofs.YtdpibehpmghghaaGreat
