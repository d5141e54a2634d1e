/- The sum of bytes, as a plain Lean function; the laws of bits that its walks need. No program in sight. -/
import Derived.Test.YtcgnalpcbcpmkaaMem
import Derived.Laws.BitsLemmas
namespace Go.Proofs.Ytcgnalpcbcpmkaa
open Go.RowKit

theorem wraps_u32 (n : Int) (h0 : 0 ≤ n) (h1 : n < 2 ^ 32) : IntKind.u32.wrap n = n := by rw [IntKind.wrap_u32]; omega
theorem xor_u32 (a b : Nat) (ha : a < 4294967296) (hb : b < 4294967296) : bits .xor .u32 (a : Int) (b : Int) = ((a ^^^ b : Nat) : Int) := by
  have ha' : a % 2 ^ IntKind.u32.bits = a := Nat.mod_eq_of_lt ha
  have hb' : b % 2 ^ IntKind.u32.bits = b := Nat.mod_eq_of_lt hb
  have hx : a ^^^ b < 2 ^ 32 := Nat.xor_lt_two_pow ha hb
  simp only [bits, BitVec.ofInt_natCast, BitVec.toNat_xor, BitVec.toNat_ofNat, ha', hb']
  exact wraps_u32 _ (Int.natCast_nonneg _) (by exact_mod_cast hx)
theorem and_u32 (a : Nat) (ha : a < 4294967296) : bits .and .u32 (a : Int) 1 = ((a % 2 : Nat) : Int) := by
  have h := (bits_nat .u32 32 (by decide) wraps_u32 a 1 (by omega) (by decide)).1
  rw [Nat.and_one_is_mod] at h
  exact h

def poly : Nat := 3988292384
/-- One bit. -/
def crcBit (r c : Nat) : Nat := if r % 2 = c % 2 then r / 2 else (r / 2) ^^^ poly
/-- n bits of a byte, from number k on. -/
def crcB : Nat → Nat → Nat → Nat → Nat
  | 0, _, r, _ => r
  | n + 1, k, r, b => crcB n (k + 1) (crcBit r (b / 2 ^ k)) b
def byteAt (s : ByteArray) (k : Nat) : Nat := if h : k < s.size then s[k].toNat else 0
theorem byteAt_of {s : ByteArray} {k : Nat} (h : k < s.size) : byteAt s k = s[k].toNat := by simp [byteAt, h]
theorem byteAt_lt (s : ByteArray) (k : Nat) : byteAt s k < 256 := by
  unfold byteAt
  split
  · exact UInt8.toNat_lt _
  · omega
/-- What the first k bytes leave. -/
def crcF (s : ByteArray) : Nat → Nat
  | 0 => 4294967295
  | k + 1 => crcB 8 0 (crcF s k) (byteAt s k)
def crc (s : ByteArray) : Nat := 4294967295 - crcF s s.size
theorem crcBit_lt {r c : Nat} (h : r < 4294967296) : crcBit r c < 4294967296 := by
  unfold crcBit
  split
  · omega
  · exact Nat.xor_lt_two_pow (n := 32) (by omega) (by decide)
theorem crcB_lt : ∀ (n k r b : Nat), r < 4294967296 → crcB n k r b < 4294967296
  | 0, _, _, _, h => h
  | n + 1, k, _, b, h => crcB_lt n (k + 1) _ b (crcBit_lt h)
theorem crcF_lt (s : ByteArray) : ∀ k, crcF s k < 4294967296
  | 0 => by simp [crcF]
  | k + 1 => crcB_lt _ _ _ _ (crcF_lt s k)
theorem xor_low {r c : Nat} : (r ^^^ c) % 2 = if r % 2 = c % 2 then 0 else 1 := by
  have h := @Nat.xor_mod_two_eq_one r c
  split
  · rename_i h1
    rcases Nat.mod_two_eq_zero_or_one (r ^^^ c) with h2 | h2
    · exact h2
    · exfalso; rw [h, h1] at h2; exact h2 Iff.rfl
  · rename_i h1
    rw [h]
    omega
theorem xor_half {r b k : Nat} : (r ^^^ (b / 2 ^ k)) / 2 = (r / 2) ^^^ (b / 2 ^ (k + 1)) := by
  rw [Nat.xor_div_two, Nat.div_div_eq_div_mul, ← Nat.pow_succ]
theorem xor_half_poly {r b k : Nat} : ((r ^^^ (b / 2 ^ k)) / 2) ^^^ poly = ((r / 2) ^^^ poly) ^^^ (b / 2 ^ (k + 1)) := by
  rw [xor_half, Nat.xor_assoc, Nat.xor_comm (b / 2 ^ (k + 1)) poly, ← Nat.xor_assoc]
theorem xor_not {r : Nat} (h : r < 4294967296) : 4294967295 ^^^ r = 4294967295 - r := by
  have e : 2 ^ 32 - (r + 1) = 4294967295 - r := by omega
  rw [← e]
  apply Nat.eq_of_testBit_eq
  intro i
  rw [Nat.testBit_two_pow_sub_succ (n := 32) h, Nat.testBit_xor, show (4294967295 : Nat) = 2 ^ 32 - 1 by rfl, Nat.testBit_two_pow_sub_one]
  by_cases hi : i < 32
  · simp [hi]
  · have : r.testBit i = false := Nat.testBit_lt_two_pow (Nat.lt_of_lt_of_le h (show (2 : Nat) ^ 32 ≤ 2 ^ i from Nat.pow_le_pow_right (by decide) (by omega)))
    simp [hi, this]
end Go.Proofs.Ytcgnalpcbcpmkaa
