/-
  PLAIN: numbers of two words. No Go in sight.
-/
import Derived.Test.YgcoahFmt
namespace Go.Proofs.Ygcoah

/-- The upper and the lower word of n. -/
def hiW (n : Nat) : Nat := n / 18446744073709551616
def loW (n : Nat) : Nat := n % 18446744073709551616

theorem loW_lt (n : Nat) : loW n < 18446744073709551616 := Nat.mod_lt _ (by decide)
theorem hiW_lt {n : Nat} (h : n < 340282366920938463463374607431768211456) : hiW n < 18446744073709551616 := by unfold hiW; omega
theorem hi_lo (n : Nat) : hiW n * 18446744073709551616 + loW n = n := by unfold hiW loW; omega
theorem hiW_mk {h l : Nat} (hl : l < 18446744073709551616) : hiW (h * 18446744073709551616 + l) = h := by unfold hiW; omega
theorem loW_mk {h l : Nat} (hl : l < 18446744073709551616) : loW (h * 18446744073709551616 + l) = l := by unfold loW; omega
theorem W_split {n h l : Nat} (e : n = h * 18446744073709551616 + l) (hl : l < 18446744073709551616) : hiW n = h ∧ loW n = l := by
  rw [e]; exact ⟨hiW_mk hl, loW_mk hl⟩

theorem W_pow (k : Nat) (hk : k ≤ 64) : (18446744073709551616 : Nat) = 2 ^ (64 - k) * 2 ^ k := by
  rw [← Nat.pow_add, show 64 - k + k = 64 by omega]

/-- A word moved up by k < 64 bits. -/
theorem up_split (x k : Nat) (hk : k ≤ 64) : x * 2 ^ k = x / 2 ^ (64 - k) * 18446744073709551616 + x * 2 ^ k % 18446744073709551616 := by
  have hW := W_pow k hk
  have h1 : x * 2 ^ k / 18446744073709551616 = x / 2 ^ (64 - k) := by
    conv => lhs; rw [hW]
    rw [Nat.mul_div_mul_right _ _ (pow_pos2 k)]
  have := Nat.div_add_mod (x * 2 ^ k) 18446744073709551616
  rw [h1, Nat.mul_comm] at this
  exact this.symm

theorem shl_words (h l k : Nat) (hk : k ≤ 64) : (h * 18446744073709551616 + l) * 2 ^ k = (h * 2 ^ k + l / 2 ^ (64 - k)) * 18446744073709551616 + l * 2 ^ k % 18446744073709551616 := by
  have h1 := up_split l k hk
  rw [Nat.add_mul, Nat.add_mul, Nat.mul_right_comm]
  omega

theorem low_lt (l k : Nat) (hk : k ≤ 64) (hl : l < 18446744073709551616) : l / 2 ^ (64 - k) < 2 ^ k := by
  rw [Nat.div_lt_iff_lt_mul (pow_pos2 _), Nat.mul_comm, ← W_pow k hk]
  exact hl

theorem shr_words (h l k : Nat) (hk : k ≤ 64) (hl : l < 18446744073709551616) : (h * 18446744073709551616 + l) / 2 ^ k = h / 2 ^ k * 18446744073709551616 + (l / 2 ^ k + h % 2 ^ k * 2 ^ (64 - k)) ∧ l / 2 ^ k + h % 2 ^ k * 2 ^ (64 - k) < 18446744073709551616 ∧ l / 2 ^ k < 2 ^ (64 - k) := by
  have hW := W_pow k hk
  have hp := pow_pos2 k
  have h0 : l / 2 ^ k < 2 ^ (64 - k) := by rw [Nat.div_lt_iff_lt_mul hp, ← hW]; exact hl
  refine ⟨?_, ?_, h0⟩
  · have e : h * 18446744073709551616 + l = l + h * 2 ^ (64 - k) * 2 ^ k := by
      conv => lhs; rw [hW]
      rw [Nat.mul_assoc]; omega
    rw [e, Nat.add_mul_div_right _ _ hp]
    have h1 : h * 2 ^ (64 - k) = h / 2 ^ k * 18446744073709551616 + h % 2 ^ k * 2 ^ (64 - k) := by
      conv => lhs; rw [← Nat.div_add_mod h (2 ^ k), Nat.add_mul]
      congr 1
      conv => rhs; rw [hW]
      rw [Nat.mul_comm (2 ^ k), Nat.mul_assoc, Nat.mul_comm (2 ^ k)]
    omega
  · have h1 : h % 2 ^ k + 1 ≤ 2 ^ k := Nat.mod_lt _ hp
    have h2 := Nat.mul_le_mul_right (2 ^ (64 - k)) h1
    rw [Nat.mul_comm (2 ^ k), ← hW, Nat.add_mul] at h2
    omega

/-- The product of two words, by halves. -/
theorem mul_words (a b mid mid2 : Nat)
    (e1 : mid = a / 4294967296 * (b % 4294967296) + a % 4294967296 * (b % 4294967296) / 4294967296) (e2 : mid2 = a % 4294967296 * (b / 4294967296) + mid % 4294967296) :
    a * b / 18446744073709551616 = a / 4294967296 * (b / 4294967296) + mid / 4294967296 + mid2 / 4294967296 := by
  have ea : a = a / 4294967296 * 4294967296 + a % 4294967296 := by omega
  have eb : b = b / 4294967296 * 4294967296 + b % 4294967296 := by omega
  have hab : a * b = a / 4294967296 * (b / 4294967296) * 18446744073709551616 + a / 4294967296 * (b % 4294967296) * 4294967296 + a % 4294967296 * (b / 4294967296) * 4294967296 + a % 4294967296 * (b % 4294967296) := by
    conv => lhs; rw [ea, eb]
    generalize a / 4294967296 = a1
    generalize a % 4294967296 = a0
    generalize b / 4294967296 = b1
    generalize b % 4294967296 = b0
    rw [Nat.add_mul, Nat.mul_add, Nat.mul_add]
    have h1 : a1 * 4294967296 * (b1 * 4294967296) = a1 * b1 * 18446744073709551616 := by
      rw [Nat.mul_mul_mul_comm]
    have h2 : a1 * 4294967296 * b0 = a1 * b0 * 4294967296 := by rw [Nat.mul_right_comm]
    have h3 : a0 * (b1 * 4294967296) = a0 * b1 * 4294967296 := by rw [Nat.mul_assoc]
    omega
  rw [hab]
  generalize a / 4294967296 * (b / 4294967296) = p11 at *
  generalize a / 4294967296 * (b % 4294967296) = p10 at *
  generalize a % 4294967296 * (b / 4294967296) = p01 at *
  generalize a % 4294967296 * (b % 4294967296) = p00 at *
  omega

end Go.Proofs.Ygcoah
