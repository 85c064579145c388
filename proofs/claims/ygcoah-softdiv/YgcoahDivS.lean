/-
  THE WALKS OF PACKAGE soft: DivFlags.
-/
import Derived.Test.YgcoahTwo3
import Derived.Test.YgcoahExt
import Derived.Test.YgcoahSoft5
import Derived.Test.YgcoahWide7
namespace Go.Proofs.Ygcoah
open Go.RowKit

/-- The quotient's significand: its lowest bit set for what is left. -/
def divJ (M m1 m2 : Nat) : Nat :=
  if m1 * 2 ^ (63 - M) * 9223372036854775808 % (m2 * 2 ^ (63 - M)) = 0 then m1 * 2 ^ (63 - M) * 9223372036854775808 / (m2 * 2 ^ (63 - M))
  else (m1 * 2 ^ (63 - M) * 9223372036854775808 / (m2 * 2 ^ (63 - M))) ||| 1

/-- What soft.DivFlags answers. -/
def divR (E M mode : Nat) (p q : Pt) : Nat :=
  if p.cls = 4 ∨ q.cls = 4 then nanP E M
  else if (p.cls = 3 ∧ q.cls = 3) ∨ (p.cls = 0 ∧ q.cls = 0) then nanP E M
  else if p.cls = 3 then infS E M (p.neg != q.neg)
  else if q.cls = 0 then infS E M (p.neg != q.neg)
  else if p.cls = 0 ∨ q.cls = 3 then sgnP E M (p.neg != q.neg)
  else softR E M mode (p.neg != q.neg) (p.exp - q.exp - 63) (divJ M p.man q.man)

/-- The significands moved up: their range, and the quotient's. -/
theorem div_range (M m1 m2 : Nat) (hM : M ≤ 52) (h1 : 2 ^ M ≤ m1) (h2 : m1 < 2 ^ (M + 1)) (h3 : 2 ^ M ≤ m2) (h4 : m2 < 2 ^ (M + 1)) :
    9223372036854775808 ≤ m1 * 2 ^ (63 - M) ∧ m1 * 2 ^ (63 - M) < 18446744073709551616 ∧ 9223372036854775808 ≤ m2 * 2 ^ (63 - M) ∧ m2 * 2 ^ (63 - M) < 18446744073709551616 ∧
    4611686018427387904 ≤ m1 * 2 ^ (63 - M) * 9223372036854775808 / (m2 * 2 ^ (63 - M)) ∧ m1 * 2 ^ (63 - M) * 9223372036854775808 / (m2 * 2 ^ (63 - M)) < 18446744073709551616 := by
  have e1 : 2 ^ M * 2 ^ (63 - M) = 9223372036854775808 := by rw [← Nat.pow_add, show M + (63 - M) = 63 by omega]
  have e2 : 2 ^ (M + 1) * 2 ^ (63 - M) = 18446744073709551616 := by rw [← Nat.pow_add, show M + 1 + (63 - M) = 64 by omega]
  have a1 := Nat.mul_le_mul_right (2 ^ (63 - M)) h1
  have a2 := Nat.mul_lt_mul_of_pos_right h2 (pow_pos2 (63 - M))
  have a3 := Nat.mul_le_mul_right (2 ^ (63 - M)) h3
  have a4 := Nat.mul_lt_mul_of_pos_right h4 (pow_pos2 (63 - M))
  rw [e1] at a1 a3
  rw [e2] at a2 a4
  generalize m1 * 2 ^ (63 - M) = x at *
  generalize m2 * 2 ^ (63 - M) = y at *
  refine ⟨a1, a2, a3, a4, ?_, ?_⟩
  · rw [Nat.le_div_iff_mul_le (by omega)]; omega
  · rw [Nat.div_lt_iff_lt_mul (by omega)]; omega

end Go.Proofs.Ygcoah
