/-
  PLAIN: formats and patterns. No Go in sight.
-/
import Derived.Test.YgcoahLimbs
namespace Go.Proofs.Ygcoah

def FOk (E M : Nat) : Prop := 2 ≤ E ∧ E ≤ 11 ∧ 2 ≤ M ∧ M ≤ 52
def biasP (E : Nat) : Nat := 2 ^ (E - 1) - 1
def infP (E M : Nat) : Nat := (2 ^ E - 1) * 2 ^ M
def sgnP (E M : Nat) (neg : Bool) : Nat := if neg then 2 ^ (E + M) else 0

/-- The sign bit's pattern; all bits of a pattern. -/
def sbP (E M : Nat) : Nat := 2 ^ (E + M)
def mskP (E M : Nat) : Nat := 2 ^ (E + M + 1) - 1

/-- The infinity, the greatest finite value, with a sign; the NaN that is answered. -/
def infS (E M : Nat) (neg : Bool) : Nat := infP E M + sgnP E M neg
def maxS (E M : Nat) (neg : Bool) : Nat := infP E M - 1 + sgnP E M neg
def nanP (E M : Nat) : Nat := infP E M + 2 ^ (M - 1)

theorem pow_cast (k : Nat) : (2 : Int) ^ k = ((2 ^ k : Nat) : Int) := by rw [Int.natCast_pow]; rfl

theorem pow_pos2 (k : Nat) : 0 < 2 ^ k := Nat.pow_pos (by decide)

theorem FOk.pow {E M : Nat} (h : FOk E M) : 2 ^ (E + M) ≤ 9223372036854775808 :=
  Nat.pow_le_pow_right (n := 2) (by decide) (show E + M ≤ 63 by unfold FOk at h; omega)

theorem FOk.powE {E M : Nat} (h : FOk E M) : 4 ≤ 2 ^ E ∧ 2 ^ E ≤ 2048 :=
  ⟨Nat.pow_le_pow_right (n := 2) (by decide) h.1, Nat.pow_le_pow_right (n := 2) (by decide) h.2.1⟩

theorem FOk.powE1 {E M : Nat} (h : FOk E M) : 2 ≤ 2 ^ (E - 1) ∧ 2 ^ (E - 1) ≤ 1024 :=
  ⟨Nat.pow_le_pow_right (n := 2) (i := 1) (by decide) (show 1 ≤ E - 1 by unfold FOk at h; omega), Nat.pow_le_pow_right (n := 2) (j := 10) (by decide) (show E - 1 ≤ 10 by unfold FOk at h; omega)⟩

theorem FOk.powM {E M : Nat} (h : FOk E M) : 4 ≤ 2 ^ M ∧ 2 ^ M ≤ 4503599627370496 :=
  ⟨Nat.pow_le_pow_right (n := 2) (by decide) h.2.2.1, Nat.pow_le_pow_right (n := 2) (by decide) h.2.2.2⟩

theorem infP_eq (E M : Nat) : infP E M + 2 ^ M = 2 ^ (E + M) := by
  unfold infP
  have := pow_pos2 E
  rw [Nat.sub_mul, Nat.pow_add, Nat.one_mul]
  have h : 2 ^ M ≤ 2 ^ E * 2 ^ M := Nat.le_mul_of_pos_left _ this
  omega

theorem infP_lt (E M : Nat) : infP E M < 2 ^ (E + M) := by
  have := infP_eq E M
  have := pow_pos2 M
  omega

theorem infP_pos {E M : Nat} (h : FOk E M) : 0 < infP E M := by
  have := h.powE
  exact Nat.mul_pos (by omega) (pow_pos2 M)

/-- A sign bit put on. -/
theorem or_sign (E M x : Nat) (neg : Bool) (hx : x < 2 ^ (E + M)) : (if neg then x ||| 2 ^ (E + M) else x) = x + sgnP E M neg := by
  unfold sgnP
  cases neg
  · simp
  · simp only [if_true]
    rw [Nat.or_comm]
    have := Nat.two_pow_add_eq_or_of_lt hx 1
    simp only [Nat.mul_one] at this
    omega

theorem sbP_bd {E M : Nat} (h : FOk E M) : 0 < sbP E M ∧ sbP E M ≤ 9223372036854775808 := ⟨pow_pos2 _, h.pow⟩
theorem mskP_eq (E M : Nat) : mskP E M = 2 * sbP E M - 1 := by unfold mskP sbP; rw [Nat.pow_succ]; omega

/-- A pattern taken apart. -/
structure Pt where
  neg : Bool
  cls : Nat
  exp : Int
  man : Nat

def negOf (E M x : Nat) : Bool := decide (x / 2 ^ (E + M) % 2 = 1)
def expOf (E M x : Nat) : Nat := x / 2 ^ M % 2 ^ E
def manOf (M x : Nat) : Nat := x % 2 ^ M

/-- What Unpack answers. -/
def unp (E M x : Nat) : Pt :=
  if expOf E M x = 2 ^ E - 1 then
    if manOf M x = 0 then ⟨negOf E M x, 3, 0, 0⟩ else ⟨false, 4, 0, 0⟩
  else if expOf E M x = 0 then
    if manOf M x = 0 then ⟨negOf E M x, 0, 0, 0⟩
    else ⟨negOf E M x, 1, 1 - (biasP E : Int) - (M : Int) - ((M + 1 - bl (manOf M x) : Nat) : Int), manOf M x * 2 ^ (M + 1 - bl (manOf M x))⟩
  else ⟨negOf E M x, 2, (expOf E M x : Int) - (biasP E : Int) - (M : Int), manOf M x + 2 ^ M⟩

end Go.Proofs.Ygcoah
