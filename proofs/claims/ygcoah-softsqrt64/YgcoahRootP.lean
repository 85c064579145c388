/-
  PLAIN: the root by halves: what the upper half's root leaves, divided by twice it, is the lower half, at most one too great. And one turn of the root bit by bit. No Go in sight.
-/
import Derived.Test.YgcoahNewton
namespace Go.Proofs.Ygcoah

theorem root_half {B s L mid lo t : Nat} (hB : 0 < B) (h1 : t = s * s + L) (h2 : t < (s + 1) * (s + 1)) (hs : B ≤ 2 * s) (hm : mid < B) (hl : lo < B) :
    t * (B * B) + mid * B + lo < (s * B + min ((L * B + mid) / (2 * s)) (B - 1) + 1) * (s * B + min ((L * B + mid) / (2 * s)) (B - 1) + 1) ∧
    ((s * B + min ((L * B + mid) / (2 * s)) (B - 1)) * (s * B + min ((L * B + mid) / (2 * s)) (B - 1)) ≤ t * (B * B) + mid * B + lo ∨
      (0 < s * B + min ((L * B + mid) / (2 * s)) (B - 1) ∧ (s * B + min ((L * B + mid) / (2 * s)) (B - 1) - 1) * (s * B + min ((L * B + mid) / (2 * s)) (B - 1) - 1) ≤ t * (B * B) + mid * B + lo)) := by
  have hdm := Nat.div_add_mod (L * B + mid) (2 * s)
  have hml := Nat.mod_lt (L * B + mid) (show 0 < 2 * s by omega)
  generalize (L * B + mid) / (2 * s) = low at *
  generalize (L * B + mid) % (2 * s) = r at *
  -- x = s*B*s*B + (L*B+mid)*B + lo
  have ex : t * (B * B) + mid * B + lo = (s * B) * (s * B) + (L * B + mid) * B + lo := by
    rw [h1, Nat.add_mul, Nat.add_mul (L * B)]
    have e1 : s * s * (B * B) = s * B * (s * B) := Nat.mul_mul_mul_comm _ _ _ _
    have e2 : L * (B * B) = L * B * B := by rw [Nat.mul_assoc]
    rw [e1, e2]
    omega
  constructor
  · by_cases c : low ≤ B - 1
    · rw [Nat.min_eq_left c, ex]
      have e1 : (s * B + low + 1) * (s * B + low + 1) = (s * B) * (s * B) + (2 * s * (low + 1)) * B + (low + 1) * (low + 1) := by
        rw [Nat.add_assoc]
        generalize low + 1 = k
        rw [Nat.add_mul, Nat.mul_add, Nat.mul_add]
        have a1 : s * B * k = s * k * B := Nat.mul_right_comm _ _ _
        have a2 : k * (s * B) = s * k * B := by rw [Nat.mul_comm, a1]
        have a3 : 2 * s * k * B = 2 * (s * k * B) := by rw [Nat.mul_assoc 2, Nat.mul_assoc 2]
        rw [a1, a2, a3]
        omega
      rw [e1]
      have e2 : L * B + mid + 1 ≤ 2 * s * (low + 1) := by rw [Nat.mul_add, Nat.mul_one]; omega
      have e3 := Nat.mul_le_mul_right B e2
      rw [Nat.add_mul _ 1, Nat.one_mul] at e3
      omega
    · rw [Nat.min_eq_right (by omega)]
      have e0 : s * B + (B - 1) + 1 = (s + 1) * B := by rw [Nat.add_mul, Nat.one_mul]; omega
      rw [e0, Nat.mul_mul_mul_comm]
      have e1 : (t + 1) * (B * B) ≤ (s + 1) * (s + 1) * (B * B) := Nat.mul_le_mul_right _ h2
      rw [Nat.add_mul, Nat.one_mul] at e1
      have e2 : mid * B + lo < B * B := by
        have : (mid + 1) * B ≤ B * B := Nat.mul_le_mul_right _ hm
        rw [Nat.add_mul, Nat.one_mul] at this
        omega
      omega
  · obtain ⟨q, hq⟩ : ∃ q, q = min low (B - 1) := ⟨_, rfl⟩
    rw [← hq]
    have hqB : q < B := by omega
    have hql : 2 * s * q ≤ L * B + mid := by
      have : 2 * s * q ≤ 2 * s * low := Nat.mul_le_mul_left _ (by omega)
      omega
    rcases Nat.eq_zero_or_pos q with z | z
    · left
      rw [z, Nat.add_zero, ex]
      omega
    · right
      obtain ⟨k, hk⟩ : ∃ k, q = k + 1 := ⟨q - 1, by omega⟩
      rw [hk]
      refine ⟨by omega, ?_⟩
      rw [show s * B + (k + 1) - 1 = s * B + k by omega, ex]
      have e1 : (s * B + k) * (s * B + k) = (s * B) * (s * B) + (2 * s * k) * B + k * k := by
        rw [Nat.add_mul, Nat.mul_add, Nat.mul_add]
        have a1 : s * B * k = s * k * B := Nat.mul_right_comm _ _ _
        have a2 : k * (s * B) = s * k * B := by rw [Nat.mul_comm, a1]
        have a3 : 2 * s * k * B = 2 * (s * k * B) := by rw [Nat.mul_assoc 2, Nat.mul_assoc 2]
        rw [a1, a2, a3]
        omega
      rw [e1]
      have e2 : 2 * s * k + 2 * s ≤ L * B + mid := by rw [hk, Nat.mul_add, Nat.mul_one] at hql; exact hql
      have e3 := Nat.mul_le_mul_right B e2
      rw [Nat.add_mul _ (2 * s)] at e3
      have e4 : k * k ≤ B * B := Nat.mul_le_mul (by omega) (by omega)
      have e5 : B * B ≤ 2 * s * B := Nat.mul_le_mul_right _ hs
      omega

/-- One turn: b is half of 2^j = 2b, s a multiple of 2b. -/
theorem root_turn {t s l b : Nat} (h1 : s * s + l = t) (h2 : t < (s + 2 * b) * (s + 2 * b)) :
    ((2 * s + b) * b ≤ l → (s + b) * (s + b) + (l - (2 * s + b) * b) = t ∧ t < (s + b + b) * (s + b + b)) ∧ (l < (2 * s + b) * b → t < (s + b) * (s + b)) := by
  have e : (s + b) * (s + b) = s * s + (2 * s + b) * b := by
    rw [Nat.add_mul, Nat.mul_add, Nat.mul_add, Nat.add_mul, Nat.mul_assoc 2, Nat.mul_comm b s]
    omega
  refine ⟨fun h => ⟨by omega, ?_⟩, fun h => by omega⟩
  rw [show s + b + b = s + 2 * b by omega]
  exact h2

end Go.Proofs.Ygcoah
