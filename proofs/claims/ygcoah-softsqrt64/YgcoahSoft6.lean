/-
  PLAIN: what sum needs of words, of jam, of shrJam. No Go in sight but the word operation or.
-/
import Derived.Test.YgcoahSoft5
namespace Go.Proofs.Ygcoah

theorem shrJ_le (a k : Nat) : shrJ a k ≤ a := by
  unfold shrJ
  have h1 : a / 2 ^ k ≤ a := Nat.div_le_self _ _
  split
  · exact h1
  · rename_i c
    rw [or_one]
    have hp := pow_pos2 k
    rcases Nat.eq_zero_or_pos k with hk | hk
    · subst hk; simp [Nat.mod_one] at c
    · have h2 : 2 ≤ 2 ^ k := Nat.pow_le_pow_right (n := 2) (i := 1) (by decide) hk
      have h3 : a / 2 ^ k ≤ a / 2 := Nat.div_le_div_left h2 (by decide)
      have h4 : a ≠ 0 := fun e => c (by rw [e]; simp)
      generalize a / 2 ^ k = q at *
      omega

theorem jamP_pos (n : Nat) (h0 : 0 < n) (h : n < 340282366920938463463374607431768211456) : 0 < jamP n ∧ jamP n < 18446744073709551616 := by
  have h1 := norm_128 n h0 h
  obtain ⟨h2, _⟩ := bl_bounds n h0
  have hb : bl n ≤ 128 := (bl_le_iff _ _).2 h
  have hb0 := bl_pos n h0
  have h3 : 2 ^ (bl n - 1) * 2 ^ (128 - bl n) ≤ n * 2 ^ (128 - bl n) := Nat.mul_le_mul_right _ h2
  rw [← Nat.pow_add, show bl n - 1 + (128 - bl n) = 127 by omega, show (2 : Nat) ^ 127 = 170141183460469231731687303715884105728 by decide] at h3
  unfold jamP
  generalize n * 2 ^ (128 - bl n) = s at *
  split
  · omega
  · rw [or_one]; omega

theorem or_words_ne (n : Nat) (h0 : 0 < n) (h : n < 340282366920938463463374607431768211456) : bits .or .u64 (hiW n : Int) (loW n : Int) ≠ 0 := by
  rw [u64_or_nat _ _ (hiW_lt h) (loW_lt n)]
  intro e
  have e2 : hiW n ||| loW n = 0 := by omega
  rw [Nat.or_eq_zero_iff] at e2
  have := hi_lo n
  omega

end Go.Proofs.Ygcoah
