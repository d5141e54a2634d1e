/- Several texts in one: SumSpec, PackSpec, Nums, Rest, GoMain, LawGoes, Equal, Pair, PairEarly. -/
import Derived.Laws.BitsLemmas
import Derived.Laws.BytesArg
import Derived.Laws.StructEq
import Derived.Test.YtcfachfldanddaaBd15e47e3898
import Derived.Test.YtcfachfldanddaaBd52e2510bab
import Derived.Test.YtcfachfldanddaaBd99a0450026
import Derived.Test.YtcfachfldanddaaBd955db47426
import Derived.Test.YtcfachfldanddaaBd2aa8e41777
/- The sum of bytes, as a plain Lean function; the laws of bits that its walks need. No program in sight. -/
namespace Go.Proofs.Ytcfachfldanddaa
open Go.RowKit

theorem wraps_u32 (n : Int) (h0 : 0 ≤ n) (h1 : n < 2 ^ 32) : IntKind.u32.wrap n = n := by rw [IntKind.wrap_u32]; omega
theorem xor_u32 (a b : Nat) (ha : a < 4294967296) (hb : b < 4294967296) : bits .xor .u32 (a : Int) (b : Int) = ((a ^^^ b : Nat) : Int) := by
  have ha' : a % 2 ^ IntKind.u32.bits = a := Nat.mod_eq_of_lt ha
  have hb' : b % 2 ^ IntKind.u32.bits = b := Nat.mod_eq_of_lt hb
  have hx : a ^^^ b < 2 ^ 32 := Nat.xor_lt_two_pow ha hb
  simp only [bits, BitVec.ofInt_natCast, BitVec.toNat_xor, BitVec.toNat_ofNat, ha', hb']
  exact wraps_u32 _ (Int.natCast_nonneg _) (by exact_mod_cast hx)
theorem and_u32 (a : Nat) (ha : a < 4294967296) : bits .and .u32 (a : Int) 1 = ((a % 2 : Nat) : Int) := by
  have h := (bits_nat .u32 32 (by decide) wraps_u32 a 1 (by omega) (by decide)).1
  rw [Nat.and_one_is_mod] at h
  exact h

def poly : Nat := 3988292384
/-- One bit. -/
def crcBit (r c : Nat) : Nat := if r % 2 = c % 2 then r / 2 else (r / 2) ^^^ poly
/-- n bits of a byte, from number k on. -/
def crcB : Nat → Nat → Nat → Nat → Nat
  | 0, _, r, _ => r
  | n + 1, k, r, b => crcB n (k + 1) (crcBit r (b / 2 ^ k)) b
def byteAt (s : ByteArray) (k : Nat) : Nat := if h : k < s.size then s[k].toNat else 0
theorem byteAt_of {s : ByteArray} {k : Nat} (h : k < s.size) : byteAt s k = s[k].toNat := by simp [byteAt, h]
theorem byteAt_lt (s : ByteArray) (k : Nat) : byteAt s k < 256 := by
  unfold byteAt
  split
  · exact UInt8.toNat_lt _
  · omega
/-- What the first k bytes leave. -/
def crcF (s : ByteArray) : Nat → Nat
  | 0 => 4294967295
  | k + 1 => crcB 8 0 (crcF s k) (byteAt s k)
def crc (s : ByteArray) : Nat := 4294967295 - crcF s s.size
theorem crcBit_lt {r c : Nat} (h : r < 4294967296) : crcBit r c < 4294967296 := by
  unfold crcBit
  split
  · omega
  · exact Nat.xor_lt_two_pow (n := 32) (by omega) (by decide)
theorem crcB_lt : ∀ (n k r b : Nat), r < 4294967296 → crcB n k r b < 4294967296
  | 0, _, _, _, h => h
  | n + 1, k, _, b, h => crcB_lt n (k + 1) _ b (crcBit_lt h)
theorem crcF_lt (s : ByteArray) : ∀ k, crcF s k < 4294967296
  | 0 => by simp [crcF]
  | k + 1 => crcB_lt _ _ _ _ (crcF_lt s k)
theorem xor_low {r c : Nat} : (r ^^^ c) % 2 = if r % 2 = c % 2 then 0 else 1 := by
  have h := @Nat.xor_mod_two_eq_one r c
  split
  · rename_i h1
    rcases Nat.mod_two_eq_zero_or_one (r ^^^ c) with h2 | h2
    · exact h2
    · exfalso; rw [h, h1] at h2; exact h2 Iff.rfl
  · rename_i h1
    rw [h]
    omega
theorem xor_half {r b k : Nat} : (r ^^^ (b / 2 ^ k)) / 2 = (r / 2) ^^^ (b / 2 ^ (k + 1)) := by
  rw [Nat.xor_div_two, Nat.div_div_eq_div_mul, ← Nat.pow_succ]
theorem xor_half_poly {r b k : Nat} : ((r ^^^ (b / 2 ^ k)) / 2) ^^^ poly = ((r / 2) ^^^ poly) ^^^ (b / 2 ^ (k + 1)) := by
  rw [xor_half, Nat.xor_assoc, Nat.xor_comm (b / 2 ^ (k + 1)) poly, ← Nat.xor_assoc]
theorem xor_not {r : Nat} (h : r < 4294967296) : 4294967295 ^^^ r = 4294967295 - r := by
  have e : 2 ^ 32 - (r + 1) = 4294967295 - r := by omega
  rw [← e]
  apply Nat.eq_of_testBit_eq
  intro i
  rw [Nat.testBit_two_pow_sub_succ (n := 32) h, Nat.testBit_xor, show (4294967295 : Nat) = 2 ^ 32 - 1 by rfl, Nat.testBit_two_pow_sub_one]
  by_cases hi : i < 32
  · simp [hi]
  · have : r.testBit i = false := Nat.testBit_lt_two_pow (Nat.lt_of_lt_of_le h (show (2 : Nat) ^ 32 ≤ 2 ^ i from Nat.pow_le_pow_right (by decide) (by omega)))
    simp [hi, this]
end Go.Proofs.Ytcfachfldanddaa
/- A graph's numbers and bytes, as plain Lean functions; no program in sight. -/
namespace Go.Proofs.Ytcfachfldanddaa
open Go.RowKit

def lifeNums (l : IvlD) : List Int := [l.f, l.t]
def legNums (l : LegD) : List Int := [l.f, l.t, l.time, l.cost]
def edgeNums (x : EdgeD) : List Int := [x.a, x.b, (x.legs.length : Int)] ++ x.legs.flatMap legNums
/-- P23: the numbers of a graph. -/
def numsL (g : GraphD) : List Int := [g.h, (g.lives.length : Int), (g.edges.length : Int)] ++ (g.lives.flatMap lifeNums ++ g.edges.flatMap edgeNums)
def bytesL (l : List Int) : List Int := l.flatMap fun n => [n / 256, n % 256]
def sumBytes (n : Nat) : List Int := [((n % 256 : Nat) : Int), ((n / 256 % 256 : Nat) : Int), ((n / 65536 % 256 : Nat) : Int), ((n / 16777216 % 256 : Nat) : Int)]
/-- P23: the bytes of a graph. -/
def coded (g : GraphD) : ByteArray := strOfNums (bytesL (numsL g) ++ sumBytes (crc (strOfNums (bytesL (numsL g)))))

def Num (n : Int) : Prop := 0 ≤ n ∧ n ≤ 1000
theorem len_flatMap_le {α β : Type} {f : α → List β} {m : Nat} : ∀ (l : List α), (∀ x, x ∈ l → (f x).length ≤ m) → (l.flatMap f).length ≤ l.length * m
  | [], _ => by simp
  | x :: l, h => by
    have h1 := h x (by simp)
    have h2 := len_flatMap_le l fun y hy => h y (by simp [hy])
    rw [List.flatMap_cons, List.length_append, List.length_cons, Nat.succ_mul]
    omega
theorem nums_edge {g : GraphD} (hV : Valid g) {x : EdgeD} (hx : x ∈ g.edges) : (∀ n, n ∈ edgeNums x → Num n) ∧ (edgeNums x).length ≤ 27 := by
  have h := hV.edges x hx
  have h1 := h.a0; have h2 := h.a1; have h3 := h.b0; have h4 := h.b1; have h5 := h.six
  have h6 := hV.nl; have h7 := hV.h1
  constructor
  · intro n hn
    unfold edgeNums at hn
    rw [List.mem_append] at hn
    rcases hn with hn | hn
    · simp at hn
      unfold Num
      omega
    · obtain ⟨l, hl, hn⟩ := List.mem_flatMap.1 hn
      have := h.legs l hl
      simp [legNums] at hn
      unfold Num
      omega
  · have := len_flatMap_le (f := legNums) (m := 4) x.legs (fun _ _ => by simp [legNums])
    unfold edgeNums
    simp only [List.length_append, List.length_cons, List.length_nil]
    omega
theorem nums_num {g : GraphD} (hV : Valid g) : (∀ n, n ∈ numsL g → Num n) ∧ (numsL g).length ≤ 900 := by
  have h6 := hV.nl; have h7 := hV.h1; have h8 := hV.ne; have h9 := hV.h0
  constructor
  · intro n hn
    unfold numsL at hn
    rw [List.mem_append, List.mem_append] at hn
    rcases hn with hn | hn | hn
    · simp at hn
      unfold Num
      omega
    · obtain ⟨l, hl, hn⟩ := List.mem_flatMap.1 hn
      have := hV.lives l hl
      simp [lifeNums] at hn
      unfold Num
      omega
    · obtain ⟨x, hx, hn⟩ := List.mem_flatMap.1 hn
      exact (nums_edge hV hx).1 n hn
  · have h1 := len_flatMap_le (f := lifeNums) (m := 2) g.lives (fun _ _ => by simp [lifeNums])
    have h2 := len_flatMap_le (f := edgeNums) (m := 27) g.edges (fun x hx => (nums_edge hV hx).2)
    unfold numsL
    simp only [List.length_append, List.length_cons, List.length_nil]
    omega
end Go.Proofs.Ytcfachfldanddaa
/- The walk of the document's numbers: it tells numsL. -/
namespace Go.Proofs.Ytcfachfldanddaa
open Go.RowKit

theorem info_parts' {i : Option TypeInfo} {v : Value} {a b : Nat} (h : i.map (fun i => (i.zero, i.size, i.bytes)) = some (some v, a, b)) : ∃ i0, i = some i0 ∧ i0.zero = some v ∧ i0.size = a ∧ i0.bytes = b := by
  cases i with
  | none => simp at h
  | some i0 => simp at h; exact ⟨i0, rfl, h⟩
def intEncN (n : Int) : List Value := [.int .i64 n]
theorem int_one1N {a : Int} : ∀ u ∈ (#[.int .i64 a] : Array Value).toList, u.oneCell' = true := by simp [Value.oneCell']
theorem int_one2N {a b : Int} : ∀ u ∈ (#[.int .i64 a, .int .i64 b] : Array Value).toList, u.oneCell' = true := by simp [Value.oneCell']
theorem int_one3 {a b c : Int} : ∀ u ∈ (#[.int .i64 a, .int .i64 b, .int .i64 c] : Array Value).toList, u.oneCell' = true := by simp [Value.oneCell']
theorem int_one4 {a b c d : Int} : ∀ u ∈ (#[.int .i64 a, .int .i64 b, .int .i64 c, .int .i64 d] : Array Value).toList, u.oneCell' = true := by simp [Value.oneCell']

theorem own_intsN {w : World} {base : Nat} {v : Value} {l : List Int} (h : Own intEncN 1 w base 3 v l) (hi : ∀ x, x ∈ l → I64 x) : ∃ A c, v = .slice A l.length c ∧ SlAt RInt 1 w A l :=
  h.slAt (fun _ => rfl) fun x hx b o hc => ⟨by simpa using hc 0 _ rfl, hi x hx⟩
theorem num_i64 {n : Int} (h : Num n) : I64 n := by unfold Num at h; unfold I64; omega
end Go.Proofs.Ytcfachfldanddaa
/- The walk of the document's Rest. -/
namespace Go.Proofs.Ytcfachfldanddaa
open Go.RowKit

theorem rest_any (n m : Int) (w : World) (hn : I64 n) (hm : 0 < m) (hm2 : m ≤ 9223372036854775807) :
    Calls Try.prog 37 #[.int .i64 n, .int .i64 m] w fun e w' => e = .returned (.int .i64 (n % m)) ∧ w = w' := by
  obtain ⟨h0, h1⟩ := hn
  have hm0 : (m == 0) = false := by simp; omega
  have e1 : n.tmod m = if 0 ≤ n then n % m else -((-n) % m) := by
    split
    · rw [Int.tmod_eq_emod_of_nonneg (by omega)]
    · have := Int.neg_tmod (a := -n) (b := m)
      rw [Int.neg_neg] at this
      rw [this, Int.tmod_eq_emod_of_nonneg (by omega)]
  have b1 := Int.emod_nonneg n (show m ≠ 0 by omega)
  have b2 := Int.emod_lt_of_pos n hm
  have b3 := Int.emod_nonneg (-n) (show m ≠ 0 by omega)
  have b4 := Int.emod_lt_of_pos (-n) hm
  have key : n.tmod m < 0 → n.tmod m + m = n % m := by
    intro hneg
    have hn0 : ¬ 0 ≤ n := fun h => by rw [e1, if_pos h] at hneg; omega
    rw [e1, if_neg hn0] at hneg ⊢
    rw [Int.neg_emod, Int.natAbs_of_nonneg (by omega)] at hneg ⊢
    by_cases hd : m ∣ n
    · rw [if_pos hd] at hneg; omega
    · rw [if_neg hd]; omega
  have key2 : ¬ n.tmod m < 0 → n.tmod m = n % m := by
    intro hneg
    rw [e1] at hneg ⊢
    split
    · rfl
    · rename_i hn0
      rw [if_neg hn0] at hneg
      have h3 : (-n) % m = 0 := by omega
      have h4 : n % m = 0 := by
        have := Int.dvd_of_emod_eq_zero h3
        exact Int.emod_eq_zero_of_dvd (Int.dvd_neg.1 this)
      omega
  have c0 : -9223372036854775808 ≤ n.tmod m := by rw [e1]; split <;> omega
  have c1 : n.tmod m ≤ 9223372036854775807 := by rw [e1]; split <;> omega
  have K := Lib.hid key
  have K2 := Lib.hid key2
  clear key key2 e1
  generalize hq : n.tmod m = q at *
  by_cases hneg : q < 0
  · have hs := K.out hneg
    have HS := Lib.hid hs
    have hs0 : 0 ≤ q + m := by omega
    clear hs
    go_enter Try.func37, Try.ntmps37
    go_wp2
    go_ret
    exact ⟨ret_int (by rw [← HS.out]), rfl⟩
  · have HS := Lib.hid (K2.out hneg)
    go_enter Try.func37, Try.ntmps37
    go_wp2
    go_ret
    exact ⟨ret_int (by rw [← HS.out]), rfl⟩
end Go.Proofs.Ytcfachfldanddaa
/- The walk of journey.Go behind its checks. -/
namespace Go.Proofs.Ytcfachfldanddaa
open Go.RowKit

end Go.Proofs.Ytcfachfldanddaa
/- The walk of the law JourneyGoes: both Go's tell the same. -/
namespace Go.Proofs.Ytcfachfldanddaa
open Go.RowKit

end Go.Proofs.Ytcfachfldanddaa
/- The walks of the library's slices.Equal, at hops, ints, bools and lives. -/
namespace Go.Proofs.Ytcfachfldanddaa
open Go.RowKit

theorem take_eq_ofA {α : Type} {a b : List α} (hl : a.length = b.length) {k : Nat} (hk : a.length ≤ k) (h : a.take k = b.take k) : a = b := by
  rwa [List.take_of_length_le hk, List.take_of_length_le (by omega)] at h
theorem take_stepA {α : Type} {a b : List α} {k : Nat} {x y : α} (hx : a[k]? = some x) (hy : b[k]? = some y) (h : a.take k = b.take k) (hxy : x = y) : a.take (k + 1) = b.take (k + 1) := by
  rw [List.take_add_one, List.take_add_one, hx, hy, h, hxy]
theorem ne_of_getA {α : Type} {a b : List α} {k : Nat} {x y : α} (hx : a[k]? = some x) (hy : b[k]? = some y) (hxy : ¬ x = y) : ¬ a = b := by
  rintro rfl
  rw [hx] at hy
  exact hxy (by simpa using hy)

set_option maxHeartbeats 1000000 in
theorem equalInts_anyA (A B : Option Addr) (c d : Nat) (a b : List Int) (w : World) (hA : SlAt RInt 1 w A a) (hB : SlAt RInt 1 w B b) (ha : a.length ≤ maxLen) (_ : b.length ≤ maxLen) :
    Calls Try.prog 129 #[.slice A a.length c, .slice B b.length d] w fun e w' => e = .returned (.bool (decide (a = b))) ∧ Below w.heap.size w w' := by
  unfold maxLen at ha
  by_cases hl : a.length = b.length
  case neg =>
    have hne : ((a.length : Int) != (b.length : Int)) = true := by simp; omega
    go_enter Try.func129, Try.ntmps129
    go_wp2_with fail
    go_ret
    exact ⟨ret_bool (by symm; simp; intro h; exact hl (by rw [h])), Below.refl _ _⟩
  have hne : ((a.length : Int) != (b.length : Int)) = false := by simp; omega
  obtain ⟨ba, oa, hA⟩ := hA
  obtain ⟨bb, ob, hB⟩ := hB
  have HL := Lib.hid hl
  have hl1 : a.length ≤ b.length := by omega
  have hl2 : b.length ≤ a.length := by omega
  clear hl
  go_enter Try.func129, Try.ntmps129
  go_wp2_with fail
  go_loopw [13] (fun v wr => ∃ k : Nat, k ≤ a.length ∧ v = .int .i64 k ∧ Hid (a.take k = b.take k) ∧ Below w.heap.size w wr) (fun v _ => a.length - (intOf v).toNat)
  case atStart => exact ⟨0, Nat.zero_le _, rfl, Lib.hid (by simp), Below.refl _ _⟩
  case round =>
    obtain ⟨k, hk, rfl, HI, hw⟩ := hrel
    by_cases hlt : k < a.length
    · obtain ⟨x, hx⟩ := get_lt hlt
      obtain ⟨y, hy⟩ := get_lt (show k < b.length by omega)
      obtain ⟨rfl, hba, x0, _⟩ := hA k x hx
      obtain ⟨rfl, hbb, y0, _⟩ := hB k y hy
      have x1 := x0.now hw
      have y1 := y0.now hw
      simp only [Nat.mul_one] at x1 y1
      have HX := Lib.hid hx
      have HY := Lib.hid hy
      have hlt2 : k < b.length := by omega
      clear hA hB hx hy x0 y0
      by_cases hxy : x = y
      · have HXY := Lib.hid hxy
        have hn : (x != y) = false := by simp [hxy]
        clear hxy
        go_wp2_with fail
        go_quiet (fail)
        go_wp2
        go_roundw
        case rel => exact ⟨k + 1, by omega, by go_num, Lib.hid (take_stepA HX.out HY.out HI.out HXY.out), below_drewN hw _⟩
        case measure => simp [intOf]; omega
      · have HXY := Lib.hid hxy
        have hn : (x != y) = true := by simp [hxy]
        clear hxy
        go_wp2_with fail
        go_quiet (fail)
        go_wp2
        go_ret
        exact ⟨ret_bool (by symm; simp; exact ne_of_getA HX.out HY.out HXY.out), below_drewN hw _⟩
    · go_wp2_with fail
      go_ret
      exact ⟨ret_bool (by symm; simp; exact take_eq_ofA HL.out (by omega) HI.out), hw⟩

abbrev ivlVA (x : IvlD) : Value := .agg #[.int .i64 x.f, .int .i64 x.t]
theorem fields_hop : Try.prog.underlying 153 = some (.struct (Try.prog.fieldsOf 153)) := by kernel_rfl
theorem guard_hop : Try.prog.eqGuardType Try.prog.depth 153 = false := by kernel_rfl
theorem held_hop : Try.prog.stoodInHeld 153 = false := by kernel_rfl
theorem same_hop (x y : HopD) (w : World) : (Op.equalIn 10000 153 (hopV x) (hopV y)).run Try.prog w = .ok (decide (x = y)) w := by
  have e : decide (x = y) = decide (x.edge = y.edge ∧ x.depart = y.depart) := by rw [decide_eq_decide]; cases x; cases y; simp
  rw [e, run_equalIn_agg w 9999 153 _ _ fields_hop held_hop]
  have hf : (Try.prog.fieldsOf 153).toList = (match Try.prog.underlying 153 with | some (.struct fs) => fs.toList | _ => []) := by kernel_rfl
  rw [hf, Try.underlying153]
  simp [Op.eqFields, go_sem]
  by_cases hedge : x.edge = y.edge <;> by_cases hdepart : x.depart = y.depart <;> simp [*]
theorem fields_ivlA : Try.prog.underlying 25 = some (.struct (Try.prog.fieldsOf 25)) := by kernel_rfl
theorem guard_ivlA : Try.prog.eqGuardType Try.prog.depth 25 = false := by kernel_rfl
theorem held_ivlA : Try.prog.stoodInHeld 25 = false := by kernel_rfl
theorem same_ivlA (x y : IvlD) (w : World) : (Op.equalIn 10000 25 (ivlVA x) (ivlVA y)).run Try.prog w = .ok (decide (x = y)) w := by
  have e : decide (x = y) = decide (x.f = y.f ∧ x.t = y.t) := by rw [decide_eq_decide]; cases x; cases y; simp
  rw [e, run_equalIn_agg w 9999 25 _ _ fields_ivlA held_ivlA]
  have hf : (Try.prog.fieldsOf 25).toList = (match Try.prog.underlying 25 with | some (.struct fs) => fs.toList | _ => []) := by kernel_rfl
  rw [hf, Try.underlying25]
  simp [Op.eqFields, go_sem]
  by_cases hf : x.f = y.f <;> by_cases ht : x.t = y.t <;> simp [*]
set_option maxHeartbeats 1000000 in
theorem equalIvls_anyA (A B : Option Addr) (c d : Nat) (a b : List IvlD) (w : World) (hA : SlAt RIvl 2 w A a) (hB : SlAt RIvl 2 w B b) (ha : a.length ≤ maxLen) (_ : b.length ≤ maxLen) :
    Calls Try.prog 22 #[.slice A a.length c, .slice B b.length d] w fun e w' => e = .returned (.bool (decide (a = b))) ∧ Below w.heap.size w w' := by
  unfold maxLen at ha
  by_cases hl : a.length = b.length
  case neg =>
    have hne : ((a.length : Int) != (b.length : Int)) = true := by simp; omega
    go_enter Try.func22, Try.ntmps22
    go_wp2_with fail
    go_ret
    exact ⟨ret_bool (by symm; simp; intro h; exact hl (by rw [h])), Below.refl _ _⟩
  have hne : ((a.length : Int) != (b.length : Int)) = false := by simp; omega
  obtain ⟨ba, oa, hA⟩ := hA
  obtain ⟨bb, ob, hB⟩ := hB
  have HL := Lib.hid hl
  have hl1 : a.length ≤ b.length := by omega
  have hl2 : b.length ≤ a.length := by omega
  clear hl
  go_enter Try.func22, Try.ntmps22
  go_wp2_with fail
  go_loopw [13] (fun v wr => ∃ k : Nat, k ≤ a.length ∧ v = .int .i64 k ∧ Hid (a.take k = b.take k) ∧ Below w.heap.size w wr) (fun v _ => a.length - (intOf v).toNat)
  case atStart => exact ⟨0, Nat.zero_le _, rfl, Lib.hid (by simp), Below.refl _ _⟩
  case round =>
    obtain ⟨k, hk, rfl, HI, hw⟩ := hrel
    by_cases hlt : k < a.length
    · obtain ⟨x, hx⟩ := get_lt hlt
      obtain ⟨y, hy⟩ := get_lt (show k < b.length by omega)
      obtain ⟨rfl, hba, ⟨x0, x1⟩, _⟩ := hA k x hx
      obtain ⟨rfl, hbb, ⟨y0, y1⟩, _⟩ := hB k y hy
      have x0' := x0.now hw
      have y0' := y0.now hw
      have x1' := x1.now hw
      have y1' := y1.now hw
      have HX := Lib.hid hx
      have HY := Lib.hid hy
      have hlt2 : k < b.length := by omega
      clear hA hB hx hy x0 y0 x1 y1
      by_cases hxy : x = y
      · have HXY := Lib.hid hxy
        have hn : decide (x = y) = true := by simp [hxy]
        have hs := same_ivlA x y
        rw [hn] at hs
        have hgd := guard_ivlA
        clear hxy
        go_wp2_with fail
        go_quiet (fail)
        go_wp2
        go_roundw
        case rel => exact ⟨k + 1, by omega, by go_num, Lib.hid (take_stepA HX.out HY.out HI.out HXY.out), below_drewN hw _⟩
        case measure => simp [intOf]; omega
      · have HXY := Lib.hid hxy
        have hn : decide (x = y) = false := by simp [hxy]
        have hs := same_ivlA x y
        rw [hn] at hs
        have hgd := guard_ivlA
        clear hxy
        go_wp2_with fail
        go_quiet (fail)
        go_wp2
        go_ret
        exact ⟨ret_bool (by symm; simp; exact ne_of_getA HX.out HY.out HXY.out), below_drewN hw _⟩
    · go_wp2_with fail
      go_ret
      exact ⟨ret_bool (by symm; simp; exact take_eq_ofA HL.out (by omega) HI.out), hw⟩

theorem fields_leg : Try.prog.underlying 115 = some (.struct (Try.prog.fieldsOf 115)) := by kernel_rfl
theorem guard_leg : Try.prog.eqGuardType Try.prog.depth 115 = false := by kernel_rfl
theorem held_leg : Try.prog.stoodInHeld 115 = false := by kernel_rfl
theorem same_leg (x y : LegD) (w : World) : (Op.equalIn 10000 115 (legV x) (legV y)).run Try.prog w = .ok (decide (x = y)) w := by
  have e : decide (x = y) = decide (x.f = y.f ∧ x.t = y.t ∧ x.time = y.time ∧ x.cost = y.cost) := by rw [decide_eq_decide]; cases x; cases y; simp
  rw [e, run_equalIn_agg w 9999 115 _ _ fields_leg held_leg]
  have hf : (Try.prog.fieldsOf 115).toList = (match Try.prog.underlying 115 with | some (.struct fs) => fs.toList | _ => []) := by kernel_rfl
  rw [hf, Try.underlying115]
  simp [Op.eqFields, go_sem]
  by_cases hf : x.f = y.f <;> by_cases ht : x.t = y.t <;> by_cases htime : x.time = y.time <;> by_cases hcost : x.cost = y.cost <;> simp [*]
set_option maxHeartbeats 1000000 in
theorem equalBools_any (A B : Option Addr) (c d : Nat) (a b : List Bool) (w : World) (hA : SlAt RBool 1 w A a) (hB : SlAt RBool 1 w B b) (ha : a.length ≤ maxLen) (_ : b.length ≤ maxLen) :
    Calls Try.prog 62 #[.slice A a.length c, .slice B b.length d] w fun e w' => e = .returned (.bool (decide (a = b))) ∧ Below w.heap.size w w' := by
  unfold maxLen at ha
  by_cases hl : a.length = b.length
  case neg =>
    have hne : ((a.length : Int) != (b.length : Int)) = true := by simp; omega
    go_enter Try.func62, Try.ntmps62
    go_wp2_with fail
    go_ret
    exact ⟨ret_bool (by symm; simp; intro h; exact hl (by rw [h])), Below.refl _ _⟩
  have hne : ((a.length : Int) != (b.length : Int)) = false := by simp; omega
  obtain ⟨ba, oa, hA⟩ := hA
  obtain ⟨bb, ob, hB⟩ := hB
  have HL := Lib.hid hl
  have hl1 : a.length ≤ b.length := by omega
  have hl2 : b.length ≤ a.length := by omega
  clear hl
  go_enter Try.func62, Try.ntmps62
  go_wp2_with fail
  go_loopw [13] (fun v wr => ∃ k : Nat, k ≤ a.length ∧ v = .int .i64 k ∧ Hid (a.take k = b.take k) ∧ Below w.heap.size w wr) (fun v _ => a.length - (intOf v).toNat)
  case atStart => exact ⟨0, Nat.zero_le _, rfl, Lib.hid (by simp), Below.refl _ _⟩
  case round =>
    obtain ⟨k, hk, rfl, HI, hw⟩ := hrel
    by_cases hlt : k < a.length
    · obtain ⟨x, hx⟩ := get_lt hlt
      obtain ⟨y, hy⟩ := get_lt (show k < b.length by omega)
      obtain ⟨rfl, hba, x0⟩ := hA k x hx
      obtain ⟨rfl, hbb, y0⟩ := hB k y hy
      have x1 := x0.now hw
      have y1 := y0.now hw
      simp only [Nat.mul_one] at x1 y1
      have HX := Lib.hid hx
      have HY := Lib.hid hy
      have hlt2 : k < b.length := by omega
      clear hA hB hx hy x0 y0
      by_cases hxy : x = y
      · have HXY := Lib.hid hxy
        have hn : (x == y) = true := by simp [hxy]
        clear hxy
        go_wp2_with fail
        go_quiet (fail)
        go_wp2
        go_roundw
        case rel => exact ⟨k + 1, by omega, by go_num, Lib.hid (take_stepA HX.out HY.out HI.out HXY.out), below_drewN hw _⟩
        case measure => simp [intOf]; omega
      · have HXY := Lib.hid hxy
        have hn : (x == y) = false := by simp [hxy]
        clear hxy
        go_wp2_with fail
        go_quiet (fail)
        go_wp2
        go_ret
        exact ⟨ret_bool (by symm; simp; exact ne_of_getA HX.out HY.out HXY.out), below_drewN hw _⟩
    · go_wp2_with fail
      go_ret
      exact ⟨ret_bool (by symm; simp; exact take_eq_ofA HL.out (by omega) HI.out), hw⟩
end Go.Proofs.Ytcfachfldanddaa
/- The walks of small things that the keeping laws begin with: the graph of a pair, the rest of a division, a hop among others, goes. -/
namespace Go.Proofs.Ytcfachfldanddaa
open Go.RowKit

def pairG : GraphD := ⟨10, [⟨0, 10⟩, ⟨2, 9⟩], [⟨0, 1, [⟨1, 4, 3, 7⟩]⟩]⟩
def GraphOut (g : GraphD) (w : World) (e : Ending) (w' : World) : Prop := ∃ A c A' c', e = .returned (gV A c A' c' g) ∧ GraphAt w' A c A' c' g ∧ Below w.heap.size w w'
theorem slAt1 {α : Type} {R : World → Nat → Nat → α → Prop} {sz : Nat} {w : World} {b : Nat} {x : α} (hb : b < w.heap.size) (h : R w b 0 x) : SlAt R sz w (some ⟨b, 0, none⟩) [x] :=
  ⟨b, 0, fun i y hy => by
    cases i with
    | zero =>
      obtain rfl : x = y := by simpa using hy
      exact ⟨rfl, hb, by simpa using h⟩
    | succ i => simp at hy⟩
theorem slAt2 {α : Type} {R : World → Nat → Nat → α → Prop} {sz : Nat} {w : World} {b : Nat} {x y : α} (hb : b < w.heap.size) (h : R w b 0 x) (h2 : R w b sz y) : SlAt R sz w (some ⟨b, 0, none⟩) [x, y] :=
  ⟨b, 0, fun i z hz => by
    match i, hz with
    | 0, hz =>
      obtain rfl : x = z := by simpa using hz
      exact ⟨rfl, hb, by simpa using h⟩
    | 1, hz =>
      obtain rfl : y = z := by simpa using hz
      exact ⟨rfl, hb, by simpa using h2⟩
    | i + 2, hz => simp at hz⟩

set_option maxHeartbeats 1000000 in
theorem pair_any (w : World) : Calls Try.prog 53 #[] w (GraphOut pairG w) := by
  go_enter Try.func53, Try.ntmps53
  go_wp2
  refine bodyPost_ret (v := gV (some ⟨w.heap.size + 1, 0, none⟩) 2 (some ⟨w.heap.size + 3, 0, none⟩) 1 pairG) (by simp [results, Try.results53, go_sem, pairG]) rfl ?_
  refine ⟨some ⟨w.heap.size + 1, 0, none⟩, 2, some ⟨w.heap.size + 3, 0, none⟩, 1, rfl, ⟨by simp [I64, pairG], by simp [pairG], by simp [maxLen], by simp [pairG], by simp [maxLen], ?_, ?_⟩, by go_grown⟩
  · refine slAt2 (by simp) ?_ ?_ <;> simp [RIvl, cellIs, I64, go_sem]
  · refine slAt1 (by simp) ⟨⟨by simp [cellIs, go_sem], by simp [cellIs, go_sem], some ⟨w.heap.size + 2, 0, none⟩, 1, by simp [cellIs, go_sem], by simp, by simp [maxLen], slAt1 (by simp) (by simp [RLeg, cellIs, I64, go_sem])⟩, by simp [I64], by simp [I64]⟩

end Go.Proofs.Ytcfachfldanddaa
/- The earliest and the latest times of the pair; no program in sight. -/
namespace Go.Proofs.Ytcfachfldanddaa

theorem pair_valid : Valid pairG := valid_of (by decide)
theorem pair_early {l : List Int} (h : EarlyL pairG 0 0 l) : l = [0, 4] := by
  have hV := pair_valid
  have hx := hV.edges ⟨0, 1, [⟨1, 4, 3, 7⟩]⟩ (by simp [pairG])
  refine h.eq ⟨rfl, ⟨fun i => ?_, ?_⟩, fun e he i => ?_⟩
  · match i with
    | 0 => decide
    | 1 => decide
    | n + 2 => rw [gi_far (by simp), startE_far (by simp [pairG])]; exact Int.le_refl _
  · intro x hx
    obtain ⟨y, hy, rfl⟩ := mem_arcsE.1 hx
    simp [pairG] at hy
    subst hy
    decide
  · have h0 := he.1 0
    have h1 := he.2 (arcE pairG ⟨0, 1, [⟨1, 4, 3, 7⟩]⟩) (mem_arcsE.2 ⟨_, by simp [pairG], rfl⟩)
    have e0 : gi (startE pairG 0 0) 0 = 0 := by decide
    rw [e0] at h0
    have h2 := earlyF_mono hV hx (e 0) 0 h0
    have e1 : earlyF pairG ⟨0, 1, [⟨1, 4, 3, 7⟩]⟩ 0 = 4 := by decide
    rw [e1] at h2
    simp only [arcE] at h1
    match i with
    | 0 => show e 0 ≤ 0; omega
    | 1 => show e 1 ≤ 4; exact Int.le_trans h1 h2
    | n + 2 =>
      have := he.1 (n + 2)
      rw [startE_far (by simp [pairG])] at this
      rw [gi_far (by simp)]
      exact this
theorem pair_late {l : List Int} (h : LateL pairG 1 5 l) : l = [2, 5] := by
  have hV := pair_valid
  have hx := hV.edges ⟨0, 1, [⟨1, 4, 3, 7⟩]⟩ (by simp [pairG])
  refine h.eq ⟨rfl, ⟨fun i => ?_, ?_⟩, fun e he i => ?_⟩
  · match i with
    | 0 => decide
    | 1 => decide
    | n + 2 => show - gi [2, 5] (n + 2) ≤ - gi (startL pairG 1 5) (n + 2); rw [gi_far (by simp), startL_far (by simp [pairG])]; exact Int.le_refl _
  · intro x hx
    obtain ⟨y, hy, rfl⟩ := mem_arcsD.1 hx
    simp [pairG] at hy
    subst hy
    decide
  · have h0 := he.1 1
    have h1 := he.2 (arcD pairG ⟨0, 1, [⟨1, 4, 3, 7⟩]⟩) (mem_arcsD.2 ⟨_, by simp [pairG], rfl⟩)
    have e0 : - gi (startL pairG 1 5) 1 = -5 := by decide
    have h0 : e 1 ≤ -5 := by rw [← e0]; exact h0
    have h2 := lastT_mono (s := 5) (t := - e 1) hV hx (by omega)
    have e1 : lastT pairG ⟨0, 1, [⟨1, 4, 3, 7⟩]⟩ 5 = 2 := by decide
    rw [e1] at h2
    simp only [arcD] at h1
    match i with
    | 0 => show e 0 ≤ -2; exact Int.le_trans h1 (by show - lastT pairG ⟨0, 1, [⟨1, 4, 3, 7⟩]⟩ (- e 1) ≤ -2; omega)
    | 1 => show e 1 ≤ -5; omega
    | n + 2 =>
      have : e (n + 2) ≤ - gi (startL pairG 1 5) (n + 2) := he.1 (n + 2)
      rw [startL_far (by simp [pairG])] at this
      show e (n + 2) ≤ - gi [2, 5] (n + 2)
      rw [gi_far (by simp)]
      exact this
end Go.Proofs.Ytcfachfldanddaa
