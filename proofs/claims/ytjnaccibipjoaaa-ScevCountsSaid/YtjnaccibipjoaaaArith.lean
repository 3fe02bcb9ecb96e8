import Derived.Laws.BitsLemmas
import Derived.RowKit
import Derived.IntWalk
namespace Go.Proofs.Ytjnaccibipjoaaa.Arith
open Go.RowKit

theorem u64_mod (n : Int) : IntKind.u64.wrap n = n % 18446744073709551616 := by simp [IntKind.wrap, IntKind.bits, IntKind.signed]

/-- A machine number reads as its bits do. -/
theorem i64_toInt (v : BitVec 64) : IntKind.i64.wrap (v.toNat : Int) = v.toInt := by
  rw [IntKind.wrap_i64, BitVec.toInt_eq_toNat_cond]
  have h := v.isLt
  split <;> omega

theorem ofInt_toInt {x : Int} (h0 : -9223372036854775808 ≤ x) (h1 : x ≤ 9223372036854775807) : (BitVec.ofInt 64 x).toInt = x := by
  rw [BitVec.toInt_ofInt]
  show Int.bmod x 18446744073709551616 = x
  rw [Int.bmod_def]
  split <;> omega

theorem msb_ofInt {x : Int} (h0 : -9223372036854775808 ≤ x) (h1 : x ≤ 9223372036854775807) : (BitVec.ofInt 64 x).msb = decide (x < 0) := by
  rw [BitVec.msb_eq_toInt, ofInt_toInt h0 h1]

theorem bits_and64 (a b : Int) : Go.bits .and .i64 a b = (BitVec.ofInt 64 a &&& BitVec.ofInt 64 b).toInt := by
  rw [← i64_toInt]; rfl
theorem bits_or64 (a b : Int) : Go.bits .or .i64 a b = (BitVec.ofInt 64 a ||| BitVec.ofInt 64 b).toInt := by
  rw [← i64_toInt]; rfl
theorem bits_xor64 (a b : Int) : Go.bits .xor .i64 a b = (BitVec.ofInt 64 a ^^^ BitVec.ofInt 64 b).toInt := by
  rw [← i64_toInt]; rfl

theorem xor_neg_one {x : Int} (h0 : -9223372036854775808 ≤ x) (h1 : x ≤ 9223372036854775807) : Go.bits .xor .i64 (-1) x = -1 - x := by
  rw [bits_xor64]
  have e : BitVec.ofInt 64 (-1) = BitVec.allOnes 64 := by decide
  rw [e, BitVec.allOnes_xor, BitVec.toInt_not]
  have hx := ofInt_toInt h0 h1
  have : ((BitVec.ofInt 64 x).toNat : Int) = x % 18446744073709551616 := by
    rw [BitVec.toNat_ofInt]; show ((x % 18446744073709551616).toNat : Int) = _; omega
  rw [this]
  show Int.bmod (18446744073709551616 - 1 - x % 18446744073709551616) 18446744073709551616 = -1 - x
  rw [Int.bmod_def]
  split <;> omega

theorem sum_sign {a b : Int} (a0 : -9223372036854775808 ≤ a) (a1 : a ≤ 9223372036854775807) (b0 : -9223372036854775808 ≤ b) (b1 : b ≤ 9223372036854775807) :
    decide (Go.bits .and .i64 (Go.bits .xor .i64 a (wrap64 (a + b))) (Go.bits .xor .i64 b (wrap64 (a + b))) ≥ 0)
      = decide (-9223372036854775808 ≤ a + b ∧ a + b ≤ 9223372036854775807) := by
  have n0 : -9223372036854775808 ≤ wrap64 (a + b) := by unfold wrap64; omega
  have n1 : wrap64 (a + b) ≤ 9223372036854775807 := by unfold wrap64; omega
  rw [bits_and64, bits_xor64, bits_xor64, BitVec.ofInt_toInt, BitVec.ofInt_toInt]
  rw [Bool.eq_iff_iff, decide_eq_true_iff, decide_eq_true_iff]
  have h : ∀ v : BitVec 64, v.toInt ≥ 0 ↔ v.msb = false := fun v => by
    rw [BitVec.msb_eq_toInt]; simp
  rw [h, BitVec.msb_and, BitVec.msb_xor, BitVec.msb_xor, msb_ofInt a0 a1, msb_ofInt b0 b1, msb_ofInt n0 n1]
  have e : wrap64 (a + b) = a + b ∨ wrap64 (a + b) = a + b - 18446744073709551616 ∨ wrap64 (a + b) = a + b + 18446744073709551616 := by unfold wrap64; omega
  generalize wrap64 (a + b) = n at *
  by_cases ha : a < 0 <;> by_cases hb : b < 0 <;> by_cases hn : n < 0 <;> simp [ha, hb, hn] <;> omega

theorem wrap_u64_in (n : Int) (h₀ : 0 ≤ n) (h₁ : n < 2 ^ 64) : IntKind.u64.wrap n = n := by rw [u64_mod]; omega
theorem wrap_i64_in (n : Int) (h₀ : 0 ≤ n) (h₁ : n < 2 ^ 63) : IntKind.i64.wrap n = n := by rw [IntKind.wrap_i64]; omega

theorem u64_low {x : Int} (h₀ : 0 ≤ x) (h₁ : x < 18446744073709551616) : Go.bits .and .u64 x 4294967295 = x % 4294967296 :=
  bits_mask .u64 64 (by decide) wrap_u64_in 32 (by decide) x h₀ h₁

/-- A mask of the lowest bits, of a number with its sign. -/
theorem i64_mask (i : Nat) (hi : i ≤ 62) (x : Int) : Go.bits .and .i64 x (2 ^ i - 1) = x % 2 ^ i := by
  have hx : Go.bits .and .i64 x (2 ^ i - 1) = Go.bits .and .i64 ((x % 18446744073709551616)) (2 ^ i - 1) := by
    unfold Go.bits
    have : BitVec.ofInt IntKind.i64.bits x = BitVec.ofInt IntKind.i64.bits (x % 18446744073709551616) := by
      apply BitVec.eq_of_toInt_eq
      simp only [BitVec.toInt_ofInt]
      show Int.bmod x 18446744073709551616 = Int.bmod (x % 18446744073709551616) 18446744073709551616
      rw [Int.bmod_def, Int.bmod_def]
      have e : x % 18446744073709551616 % ((18446744073709551616 : Nat) : Int) = x % ((18446744073709551616 : Nat) : Int) := by omega
      rw [e]
    rw [this]
  have hm : (x % 18446744073709551616) % 2 ^ i = x % 2 ^ i := by
    apply Int.emod_emod_of_dvd
    exact (by exact_mod_cast (Nat.pow_dvd_pow 2 (show i ≤ 64 by omega)) : (2 : Int) ^ i ∣ 2 ^ 64)
  rw [hx, ← hm]
  generalize hy : x % 18446744073709551616 = y
  have h0 : 0 ≤ y := by omega
  have h1 : y < 18446744073709551616 := by omega
  rw [bits_and64]
  obtain ⟨a, rfl⟩ := Int.eq_ofNat_of_zero_le h0
  have hpos : 0 < 2 ^ i := Nat.two_pow_pos i
  have hc : ((2 : Int) ^ i - 1) = ((2 ^ i - 1 : Nat) : Int) := by
    rw [Int.natCast_sub hpos]; simp
  have hle : 2 ^ i ≤ 2 ^ 62 := Nat.pow_le_pow_right (by decide) hi
  rw [hc, BitVec.ofInt_natCast, BitVec.ofInt_natCast, ← i64_toInt, BitVec.toNat_and, BitVec.toNat_ofNat, BitVec.toNat_ofNat]
  rw [Nat.mod_eq_of_lt (show a < 2 ^ 64 by omega), Nat.mod_eq_of_lt (show 2 ^ i - 1 < 2 ^ 64 by omega), Nat.and_two_pow_sub_one_eq_mod]
  have hlt : a % 2 ^ i < 2 ^ i := Nat.mod_lt _ hpos
  rw [wrap_i64_in _ (by omega) (by omega)]
  simp

/-- The high half of a product by halves. -/
theorem mul_high (a b : Nat) :
    let a1 := a / 4294967296; let a0 := a % 4294967296; let b1 := b / 4294967296; let b0 := b % 4294967296
    let w0 := a0 * b0
    let t := a1 * b0 + w0 / 4294967296
    let w1 := t % 4294967296 + a0 * b1
    let w2 := t / 4294967296
    a1 * b1 + w2 + w1 / 4294967296 = a * b / 18446744073709551616 := by
  intro a1 a0 b1 b0 w0 t w1 w2
  have ea : a = 4294967296 * a1 + a0 := by omega
  have eb : b = 4294967296 * b1 + b0 := by omega
  have e : a * b = 18446744073709551616 * (a1 * b1) + 4294967296 * (a1 * b0) + 4294967296 * (a0 * b1) + a0 * b0 := by
    rw [ea, eb, Nat.add_mul, Nat.mul_add, Nat.mul_add]
    have h1 : 4294967296 * a1 * (4294967296 * b1) = 18446744073709551616 * (a1 * b1) := by
      rw [Nat.mul_mul_mul_comm]
    have h2 : 4294967296 * a1 * b0 = 4294967296 * (a1 * b0) := Nat.mul_assoc ..
    have h3 : a0 * (4294967296 * b1) = 4294967296 * (a0 * b1) := by rw [Nat.mul_left_comm]
    omega
  rw [e]
  show a1 * b1 + (a1 * b0 + a0 * b0 / 4294967296) / 4294967296 + ((a1 * b0 + a0 * b0 / 4294967296) % 4294967296 + a0 * b1) / 4294967296 = _
  omega
end Go.Proofs.Ytjnaccibipjoaaa.Arith
