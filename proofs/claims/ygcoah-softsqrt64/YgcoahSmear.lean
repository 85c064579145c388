/-
  PLAIN: all bits below the highest 1 bit set. No Go in sight.
-/
import Derived.Test.YgcoahFmt
namespace Go.Proofs.Ygcoah

/-- y has bit i set if x has one of the bits i .. i + c - 1 set. -/
def Smeared (c x y : Nat) : Prop := ∀ i, y.testBit i = true ↔ ∃ j, j < c ∧ x.testBit (i + j) = true

theorem Smeared.start (x : Nat) : Smeared 1 x x := by
  intro i
  constructor
  · intro h; exact ⟨0, by omega, h⟩
  · rintro ⟨j, hj, h⟩
    have : j = 0 := by omega
    subst this; exact h

theorem Smeared.step {c x y : Nat} (h : Smeared c x y) : Smeared (c + c) x (y ||| y / 2 ^ c) := by
  intro i
  rw [Nat.testBit_or, Nat.testBit_div_two_pow, Bool.or_eq_true, h i, h (i + c)]
  constructor
  · rintro (⟨j, hj, e⟩ | ⟨j, hj, e⟩)
    · exact ⟨j, by omega, e⟩
    · exact ⟨c + j, by omega, by rw [show i + (c + j) = i + c + j by omega]; exact e⟩
  · rintro ⟨j, hj, e⟩
    by_cases hlt : j < c
    · exact Or.inl ⟨j, hlt, e⟩
    · exact Or.inr ⟨j - c, by omega, by rw [show i + c + (j - c) = i + j by omega]; exact e⟩

theorem testBit_top (x : Nat) (h : 0 < x) : x.testBit (bl x - 1) = true := by
  obtain ⟨h1, h2⟩ := bl_bounds x h
  have hp := bl_pos x h
  rw [Nat.testBit_eq_decide_div_mod_eq]
  have e : x / 2 ^ (bl x - 1) = 1 := by
    have : 2 ^ bl x = 2 * 2 ^ (bl x - 1) := by
      rw [← Nat.pow_succ', show (bl x - 1).succ = bl x by omega]
    rw [Nat.div_eq_iff (Nat.pow_pos (by decide))]
    omega
  rw [e]; rfl

theorem Smeared.all {x y : Nat} (h : Smeared 64 x y) (hx : x < 2 ^ 64) : y = 2 ^ bl x - 1 := by
  refine Nat.eq_of_testBit_eq fun i => ?_
  rw [Nat.testBit_two_pow_sub_one]
  have hb : bl x ≤ 64 := (bl_le_iff _ _).2 hx
  have key : y.testBit i = true ↔ i < bl x := by
    rw [h i]
    constructor
    · rintro ⟨j, _, e⟩
      false_or_by_contra
      have h1 : x < 2 ^ (i + j) := Nat.lt_of_lt_of_le ((bl_le_iff x _).1 (Nat.le_refl _)) (Nat.pow_le_pow_right (by decide) (by omega))
      rw [Nat.testBit_lt_two_pow h1] at e
      exact absurd e (by decide)
    · intro hi
      have h0 : 0 < x := by
        false_or_by_contra
        have : x = 0 := by omega
        subst this
        rw [bl_zero] at hi; omega
      exact ⟨bl x - 1 - i, by omega, by rw [show i + (bl x - 1 - i) = bl x - 1 by omega]; exact testBit_top x h0⟩
  rw [Bool.eq_iff_iff, key]
  simp

/-- The six steps. -/
def smear (x : Nat) : Nat :=
  let x1 := x ||| x / 2
  let x2 := x1 ||| x1 / 4
  let x3 := x2 ||| x2 / 16
  let x4 := x3 ||| x3 / 256
  let x5 := x4 ||| x4 / 65536
  x5 ||| x5 / 4294967296

theorem smear_eq (x : Nat) (hx : x < 2 ^ 64) : smear x = 2 ^ bl x - 1 := by
  have h0 := Smeared.start x
  have h1 := h0.step
  have h2 := h1.step
  have h3 := h2.step
  have h4 := h3.step
  have h5 := h4.step
  have h6 := h5.step
  exact h6.all hx

theorem or_lt (a k : Nat) (h : a < 18446744073709551616) : a ||| a / k < 18446744073709551616 :=
  Nat.or_lt_two_pow (n := 64) h (Nat.lt_of_le_of_lt (Nat.div_le_self _ _) h)

end Go.Proofs.Ygcoah
