/-
  PLAIN: the quotient digit that is guessed from the top limbs. No Go in sight.
-/
import Derived.Test.YgcoahLimbs
namespace Go.Proofs.Ygcoah

/-- The guess: of head * 2^32 + u0 by d1 * 2^32 + d0, at most 2^32 - 1. -/
def gq (head u0 d1 d0 : Nat) : Nat := min 4294967295 ((head * 4294967296 + u0) / (d1 * 4294967296 + d0))

/-- What holds at the head of the guess's loop. -/
structure GI (head u0 d1 d0 est rest : Nat) : Prop where
  eq : est * d1 + rest = head
  rlt : rest < 4294967296
  ge : gq head u0 d1 d0 ≤ est
  le : est ≤ 4294967297

theorem gq_le_iff {head u0 d1 d0 est rest : Nat} (h : est * d1 + rest = head) (hd : 0 < d1) : est ≤ (head * 4294967296 + u0) / (d1 * 4294967296 + d0) ↔ est * d0 ≤ rest * 4294967296 + u0 := by
  rw [Nat.le_div_iff_mul_le (by omega), ← h, Nat.mul_add, Nat.add_mul, ← Nat.mul_assoc]
  omega

theorem gq_lt {head u0 d1 d0 : Nat} : gq head u0 d1 d0 < 4294967296 := by unfold gq; omega

theorem GI.start {head u0 d1 d0 : Nat} (hh : head < (d1 + 1) * 4294967296) (hd : 2147483648 ≤ d1) (hd1 : d1 < 4294967296) (hu : u0 < 4294967296) : GI head u0 d1 d0 (head / d1) (head % d1) := by
  have h1 : head / d1 * d1 + head % d1 = head := by rw [Nat.mul_comm]; exact Nat.div_add_mod head d1
  have h2 : head % d1 < d1 := Nat.mod_lt _ (by omega)
  refine ⟨h1, by omega, ?_, ?_⟩
  · unfold gq
    have : (head * 4294967296 + u0) / (d1 * 4294967296 + d0) ≤ head / d1 := by
      have h3 : (head * 4294967296 + u0) / (d1 * 4294967296 + d0) ≤ (head * 4294967296 + u0) / (d1 * 4294967296) := Nat.div_le_div_left (by omega) (by omega)
      rw [Nat.mul_comm d1, ← Nat.div_div_eq_div_mul] at h3
      have h4 : (head * 4294967296 + u0) / 4294967296 = head := by omega
      rw [h4] at h3
      rw [Nat.mul_comm d1]
      exact h3
    omega
  · rw [Nat.div_le_iff_le_mul (by omega)]
    have := Nat.mul_le_mul_left 4294967297 hd
    rw [Nat.add_mul] at hh
    omega

theorem GI.done {head u0 d1 d0 est rest : Nat} (h : GI head u0 d1 d0 est rest) (hd : 0 < d1) (h1 : est < 4294967296) (h2 : est * d0 ≤ rest * 4294967296 + u0) : est = gq head u0 d1 d0 := by
  have h3 := (gq_le_iff h.eq hd).2 h2
  have h4 := h.ge
  unfold gq at *
  omega

theorem GI.pos {u0 d0 est rest : Nat} (hc : 4294967296 ≤ est ∨ rest * 4294967296 + u0 < est * d0) : 0 < est := by
  rcases hc with hc | hc
  · omega
  · false_or_by_contra
    have e : est = 0 := by omega
    rw [e] at hc
    omega

theorem GI.less {head u0 d1 d0 est rest : Nat} (h : GI head u0 d1 d0 est rest) (hd : 0 < d1) (hc : 4294967296 ≤ est ∨ rest * 4294967296 + u0 < est * d0) : gq head u0 d1 d0 ≤ est - 1 := by
  rcases hc with hc | hc
  · unfold gq; omega
  · have h3 := (gq_le_iff (u0 := u0) (d0 := d0) h.eq hd)
    unfold gq
    omega

theorem GI.eq' {head u0 d1 d0 est rest : Nat} (h : GI head u0 d1 d0 est rest) (hp : 0 < est) : (est - 1) * d1 + (rest + d1) = head := by
  have h1 := h.eq
  obtain ⟨e, rfl⟩ : ∃ e, est = e + 1 := ⟨est - 1, by omega⟩
  rw [Nat.add_mul] at h1
  rw [Nat.add_sub_cancel]
  omega

theorem GI.go {head u0 d1 d0 est rest : Nat} (h : GI head u0 d1 d0 est rest) (hd : 0 < d1) (hc : 4294967296 ≤ est ∨ rest * 4294967296 + u0 < est * d0) (hr : rest + d1 < 4294967296) : GI head u0 d1 d0 (est - 1) (rest + d1) :=
  ⟨h.eq' (GI.pos hc), hr, h.less hd hc, by have := h.le; omega⟩

theorem GI.ends {head u0 d1 d0 est rest : Nat} (h : GI head u0 d1 d0 est rest) (hh : head < (d1 + 1) * 4294967296) (hd : 0 < d1) (hd0 : d0 < 4294967296) (hc : 4294967296 ≤ est ∨ rest * 4294967296 + u0 < est * d0) (hr : 4294967296 ≤ rest + d1) : est - 1 = gq head u0 d1 d0 := by
  have hp := GI.pos hc
  have h1 := h.eq' hp
  have h2 := h.less hd hc
  have h3 : est - 1 < 4294967296 := by
    have h4 := h.le
    false_or_by_contra
    have e : est - 1 = 4294967296 := by omega
    rw [e] at h1
    rw [Nat.add_mul] at hh
    omega
  have h5 : (est - 1) * d0 ≤ (rest + d1) * 4294967296 + u0 := by
    have h6 := Nat.mul_le_mul (show est - 1 ≤ 4294967295 by omega) (show d0 ≤ 4294967295 by omega)
    have h7 := Nat.mul_le_mul_right 4294967296 hr
    omega
  have h8 := (gq_le_iff (u0 := u0) (d0 := d0) h1 hd).2 h5
  unfold gq at *
  omega

/-- Below d: the guess is the quotient. -/
theorem gq_exact {hi u0 d1 d0 : Nat} (h : hi < d1 * 4294967296 + d0) (hu : u0 < 4294967296) : gq hi u0 d1 d0 = (hi * 4294967296 + u0) / (d1 * 4294967296 + d0) := by
  have h1 : (hi * 4294967296 + u0) / (d1 * 4294967296 + d0) < 4294967296 := by
    rw [Nat.div_lt_iff_lt_mul (by omega), Nat.mul_comm 4294967296]
    have := Nat.mul_le_mul_right 4294967296 (show hi + 1 ≤ d1 * 4294967296 + d0 by omega)
    omega
  unfold gq
  omega

end Go.Proofs.Ygcoah
