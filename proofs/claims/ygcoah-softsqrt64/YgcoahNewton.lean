/-
  PLAIN: Newton's square root. No Go in sight.
-/
import Derived.Test.YgcoahLimbs
namespace Go.Proofs.Ygcoah

/-- r is the floor of a's square root. -/
def IsSqrt (a r : Nat) : Prop := r * r ≤ a ∧ a < (r + 1) * (r + 1)

theorem exists_sqrt (a : Nat) : ∃ r, IsSqrt a r := by
  induction a with
  | zero => exact ⟨0, Nat.le_refl _, by omega⟩
  | succ a ih =>
    obtain ⟨r, h1, h2⟩ := ih
    by_cases h : a + 1 < (r + 1) * (r + 1)
    · exact ⟨r, by omega, h⟩
    · refine ⟨r + 1, by omega, ?_⟩
      have : (r + 1 + 1) * (r + 1 + 1) = (r + 1) * (r + 1) + (r + 1) + (r + 1) + 1 := by
        simp only [Nat.add_mul, Nat.mul_add]; omega
      omega

theorem sq_le_sq {a b : Nat} (h : a * a < (b + 1) * (b + 1)) : a ≤ b := by
  false_or_by_contra
  have := Nat.mul_le_mul (show b + 1 ≤ a by omega) (show b + 1 ≤ a by omega)
  omega

theorem IsSqrt.le_of {a r s : Nat} (h : IsSqrt a r) (hs : s * s ≤ a) : s ≤ r := sq_le_sq (Nat.lt_of_le_of_lt hs h.2)
theorem IsSqrt.ge_of {a r s : Nat} (h : IsSqrt a r) (hs : a < (s + 1) * (s + 1)) : r ≤ s := sq_le_sq (Nat.lt_of_le_of_lt h.1 hs)
theorem IsSqrt.uniq {a r s : Nat} (h : IsSqrt a r) (k : IsSqrt a s) : r = s := Nat.le_antisymm (h.ge_of k.2) (k.ge_of h.2)

/-- (2r - s) s <= r r. -/
theorem amgm (r s : Nat) : (2 * r - s) * s ≤ r * r := by
  by_cases h : s ≤ r
  · obtain ⟨d, rfl⟩ : ∃ d, r = s + d := ⟨r - s, by omega⟩
    rw [show 2 * (s + d) - s = s + 2 * d by omega]
    have h1 : (s + 2 * d) * s = s * s + 2 * (d * s) := by rw [Nat.add_mul, Nat.mul_assoc]
    have h2 : (s + d) * (s + d) = s * s + 2 * (d * s) + d * d := by
      rw [Nat.add_mul, Nat.mul_add, Nat.mul_add, Nat.mul_comm s d]; omega
    omega
  · by_cases h3 : 2 * r ≤ s
    · rw [show 2 * r - s = 0 by omega]; simp
    · obtain ⟨d, rfl⟩ : ∃ d, s = r + d := ⟨s - r, by omega⟩
      rw [show 2 * r - (r + d) = r - d by omega]
      obtain ⟨e, rfl⟩ : ∃ e, r = d + e := ⟨r - d, by omega⟩
      rw [show d + e - d = e by omega]
      have h1 : e * (d + e + d) = 2 * (d * e) + e * e := by rw [Nat.mul_add, Nat.mul_add, Nat.mul_comm e d]; omega
      have h2 : (d + e) * (d + e) = d * d + 2 * (d * e) + e * e := by
        rw [Nat.add_mul, Nat.mul_add, Nat.mul_add, Nat.mul_comm e d]; omega
      omega

/-- The next estimate is not below the root. -/
theorem newton_ge {a r s : Nat} (h : IsSqrt a r) (hs : 0 < s) : r ≤ (s + a / s) / 2 := by
  have h1 : 2 * r - s ≤ a / s := by
    rw [Nat.le_div_iff_mul_le hs]
    exact Nat.le_trans (amgm r s) h.1
  generalize a / s = q at *
  omega

/-- Where it does not fall, the estimate is the root. -/
theorem newton_done {a r s : Nat} (h : IsSqrt a r) (hs : 0 < s) (hr : r ≤ s) (hn : s ≤ (s + a / s) / 2) : s = r := by
  have h1 : s ≤ a / s := by
    generalize a / s = q at *
    omega
  have h2 := (Nat.le_div_iff_mul_le hs).1 h1
  have := h.le_of h2
  omega

/-- The first estimate. -/
theorem newton_start {a r k : Nat} (h : IsSqrt a r) (ha : a < 2 ^ k * 2 ^ k) : r ≤ 2 ^ k := by
  have hp : 0 < 2 ^ k := Nat.pow_pos (by decide)
  refine h.ge_of ?_
  have := Nat.mul_le_mul (show 2 ^ k ≤ 2 ^ k + 1 by omega) (show 2 ^ k ≤ 2 ^ k + 1 by omega)
  omega

end Go.Proofs.Ygcoah
