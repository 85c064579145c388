/-
  PLAIN: the square root. No Go in sight.
-/
import Derived.Test.YgcoahPl3
namespace Go.Proofs.Ygcoah

/-- The floor n of the root of N/D, raised by the mode's rule. -/
def rootRaise (mode n N D : Nat) : Nat :=
  n + if raiseQ mode false (decide (n % 2 = 1)) (cmpI (N * 4) ((2 * n + 1) * (2 * n + 1) * D)) (decide (cmpI (n * n * D) N ≠ 0)) then 1 else 0

theorem sq_le {a b : Nat} : a * a ≤ b * b ↔ a ≤ b := by
  constructor
  · intro h
    rcases Nat.lt_or_ge b a with c | c
    · have := Nat.mul_lt_mul'' c c; omega
    · exact c
  · intro h; exact Nat.mul_le_mul h h

theorem sq_lt {a b : Nat} : a * a < b * b ↔ a < b := by
  rw [← Nat.not_le, ← Nat.not_le, sq_le]

theorem root_raised {mode n N D v s k : Nat} (hk : 2 ≤ k) (hD : 0 < D) (hN : N * 2 ^ (2 * k) = v * D) (hs1 : s * s ≤ v) (hs2 : v < (s + 1) * (s + 1)) (hn1 : n * n * D ≤ N) (hn2 : N < (n + 1) * (n + 1) * D) :
    rootRaise mode n N D = raisedP mode false (if s * s = v then s else s ||| 1) (2 ^ k) := by
  have hp := pow_pos2 k
  have hp2 := pow_pos2 (2 * k)
  have e2k : (2 : Nat) ^ (2 * k) = 2 ^ k * 2 ^ k := by rw [← Nat.pow_add, Nat.two_mul]
  -- squares of multiples of 2^k, against v
  have sqm : ∀ a : Nat, a * a * D * 2 ^ (2 * k) = (a * 2 ^ k) * (a * 2 ^ k) * D := by
    intro a; rw [e2k]
    generalize 2 ^ k = K
    simp only [Nat.mul_left_comm, Nat.mul_comm]
  have a1 : (n * 2 ^ k) * (n * 2 ^ k) ≤ v := by
    have := Nat.mul_le_mul_right (2 ^ (2 * k)) hn1
    rw [sqm, hN] at this
    exact Nat.le_of_mul_le_mul_right this hD
  have a2 : v < ((n + 1) * 2 ^ k) * ((n + 1) * 2 ^ k) := by
    have := Nat.mul_lt_mul_of_pos_right hn2 hp2
    rw [sqm, hN] at this
    exact Nat.lt_of_mul_lt_mul_right this
  have b1 : n * 2 ^ k ≤ s := by
    have := sq_lt.1 (Nat.lt_of_le_of_lt a1 hs2); omega
  have b2 : s < (n + 1) * 2 ^ k := sq_lt.1 (Nat.lt_of_le_of_lt hs1 a2)
  obtain ⟨K, hK⟩ : ∃ K, 2 ^ k = 4 * K := ⟨2 ^ (k - 2), by rw [show (4 : Nat) = 2 ^ 2 by decide, ← Nat.pow_add]; congr 1; omega⟩
  -- the half-way point
  have hh : cmpI (N * 4) ((2 * n + 1) * (2 * n + 1) * D) = cmpI v (((2 * n + 1) * (2 * K)) * ((2 * n + 1) * (2 * K))) := by
    have e1 : ((2 * n + 1) * (2 * n + 1) * D) * (4 * (K * K)) = ((2 * n + 1) * (2 * K)) * ((2 * n + 1) * (2 * K)) * D := by
      rw [show 4 * (K * K) = (2 * K) * (2 * K) by rw [Nat.mul_mul_mul_comm]]
      generalize 2 * n + 1 = a, 2 * K = b
      simp only [Nat.mul_left_comm, Nat.mul_comm]
    have e2 : N * 4 * (4 * (K * K)) = v * D := by
      rw [← hN, e2k, hK, Nat.mul_assoc]
      congr 1
      generalize hKK : K * K = Z
      rw [Nat.mul_mul_mul_comm, hKK]
      omega
    have hK0 : 0 < 4 * (K * K) := by
      have : 0 < K := by omega
      have := Nat.mul_pos this this
      omega
    unfold cmpI
    have i1 : (N * 4 < (2 * n + 1) * (2 * n + 1) * D) = (v < ((2 * n + 1) * (2 * K)) * ((2 * n + 1) * (2 * K))) := by
      apply propext
      rw [← Nat.mul_lt_mul_right hK0, e1, e2, Nat.mul_lt_mul_right hD]
    have i2 : (N * 4 = (2 * n + 1) * (2 * n + 1) * D) = (v = ((2 * n + 1) * (2 * K)) * ((2 * n + 1) * (2 * K))) := by
      apply propext
      rw [← Nat.mul_left_inj (Nat.pos_iff_ne_zero.1 hK0), e1, e2, Nat.mul_left_inj (Nat.pos_iff_ne_zero.1 hD)]
    simp only [i1, i2]
  have hz : (cmpI (n * n * D) N ≠ 0) = ((n * 2 ^ k) * (n * 2 ^ k) ≠ v) := by
    apply propext
    rw [ne_eq, cmpI_zero_iff]
    apply not_congr
    rw [← Nat.mul_left_inj (Nat.pos_iff_ne_zero.1 hp2), sqm, hN, Nat.mul_left_inj (Nat.pos_iff_ne_zero.1 hD)]
  unfold rootRaise raisedP
  rw [hh]
  rw [hK] at hz b1 b2 ⊢
  simp only [hz]
  have eh : (2 * n + 1) * (2 * K) = 4 * (n * K) + 2 * K := by rw [Nat.add_mul, Nat.one_mul, Nat.mul_mul_mul_comm]
  have en : n * (4 * K) = 4 * (n * K) := by rw [Nat.mul_left_comm]
  have en1 : (n + 1) * (4 * K) = 4 * (n * K) + 4 * K := by rw [Nat.add_mul, Nat.one_mul, en]
  rw [en1] at b2
  rw [en] at b1
  rw [eh, en]
  have hdiv : ∀ x : Nat, 4 * (n * K) ≤ x → x < 4 * (n * K) + 4 * K → x / (4 * K) = n ∧ x % (4 * K) = x - 4 * (n * K) := by
    intro x x1 x2
    obtain ⟨t, rfl⟩ : ∃ t, x = n * (4 * K) + t := ⟨x - n * (4 * K), by omega⟩
    have ht : t < 4 * K := by omega
    constructor
    · rw [Nat.mul_comm n, Nat.mul_add_div (by omega), Nat.div_eq_of_lt ht, Nat.add_zero]
    · rw [Nat.mul_comm n, Nat.mul_add_mod, Nat.mod_eq_of_lt ht]; rw [Nat.mul_comm (4 * K) n]; omega
  generalize n * K = Z at *
  by_cases c : s * s = v
  · rw [if_pos c]
    obtain ⟨d1, d2⟩ := hdiv s b1 b2
    rw [d1, d2, ← c]
    have g1 : cmpI (s * s) ((4 * Z + 2 * K) * (4 * Z + 2 * K)) = cmpI (2 * (s - 4 * Z)) (4 * K) := by
      unfold cmpI
      have i1 : (s * s < (4 * Z + 2 * K) * (4 * Z + 2 * K)) = (2 * (s - 4 * Z) < 4 * K) := by
        apply propext; rw [sq_lt]; omega
      have i2 : (s * s = (4 * Z + 2 * K) * (4 * Z + 2 * K)) = (2 * (s - 4 * Z) = 4 * K) := by
        apply propext
        constructor
        · intro a
          have := sq_le.1 (Nat.le_of_eq a)
          have := sq_le.1 (Nat.le_of_eq a.symm)
          omega
        · intro a
          rw [show s = 4 * Z + 2 * K by omega]
      simp only [i1, i2]
    have g2 : (4 * Z * (4 * Z) ≠ s * s) = (s - 4 * Z ≠ 0) := by
      apply propext
      constructor
      · intro a b; apply a; rw [show s = 4 * Z by omega]
      · intro a b
        have := sq_le.1 (Nat.le_of_eq b.symm)
        omega
    rw [g1]
    simp only [g2]
  · rw [if_neg c, or_one]
    have b1' : 4 * Z ≤ s / 2 * 2 + 1 := by omega
    have b2' : s / 2 * 2 + 1 < 4 * Z + 4 * K := by omega
    obtain ⟨d1, d2⟩ := hdiv _ b1' b2'
    rw [d1, d2]
    have g1 : cmpI v ((4 * Z + 2 * K) * (4 * Z + 2 * K)) = cmpI (2 * (s / 2 * 2 + 1 - 4 * Z)) (4 * K) := by
      rcases Nat.lt_or_ge s (4 * Z + 2 * K) with a | a
      · rw [cmpI_lt (Nat.lt_of_lt_of_le hs2 (sq_le.2 a)), cmpI_lt (by omega)]
      · have : (4 * Z + 2 * K) * (4 * Z + 2 * K) ≤ s * s := sq_le.2 a
        rw [cmpI_gt (by omega), cmpI_gt (by omega)]
    have g2 : 4 * Z * (4 * Z) ≠ v := by
      intro a
      have h1 := sq_le.2 b1
      rw [← a] at hs2 c hs1
      have := sq_le.1 hs1
      have e : s = 4 * Z := by omega
      exact c (by rw [e])
    rw [g1, decide_eq_true g2, decide_eq_true (show s / 2 * 2 + 1 - 4 * Z ≠ 0 by omega)]

/-- The exponent that exact's root takes. -/
def rootE (E num den : Nat) : Int := max (lgP num den / 2) (eminI E)

/-- The root: v is the significand moved up, its exponent even; s its root's floor; n the floor that exact takes. -/
theorem sqrt_plain (E M mode num den v s n : Nat) (u : Int) (h : FOk E M) (hd : 0 < den) (hv1 : 85070591730234615865843651857942052864 ≤ v) (hv2 : v < 340282366920938463463374607431768211456)
    (hs1 : s * s ≤ v) (hs2 : v < (s + 1) * (s + 1)) (hnum : num * P2 (-(2 * u)) = v * P2 (2 * u) * den) (hov : u + 63 ≤ (biasP E : Int))
    (hn1 : n * n * (den * P2 (-(2 * ((M : Int) - rootE E num den)))) ≤ num * P2 (2 * ((M : Int) - rootE E num den)))
    (hn2 : num * P2 (2 * ((M : Int) - rootE E num den)) < (n + 1) * (n + 1) * (den * P2 (-(2 * ((M : Int) - rootE E num den))))) :
    softR E M mode false u (if s * s = v then s else s ||| 1) =
      packP E M mode false (rootE E num den) (rootRaise mode n (num * P2 (2 * ((M : Int) - rootE E num den))) (den * P2 (-(2 * ((M : Int) - rootE E num den))))) := by
  have hM := h.2.2.2
  have hE1 := h.powE1
  have s1 : 9223372036854775808 ≤ s := by
    have : 9223372036854775808 * 9223372036854775808 < (s + 1) * (s + 1) := by omega
    have := sq_lt.1 this; omega
  have s2 : s < 18446744073709551616 := by
    have : s * s < 18446744073709551616 * 18446744073709551616 := by omega
    exact sq_lt.1 this
  have hsg : 9223372036854775808 ≤ (if s * s = v then s else s ||| 1) ∧ (if s * s = v then s else s ||| 1) < 18446744073709551616 := by
    split
    · omega
    · rw [or_one]; omega
  have hbl : bl (if s * s = v then s else s ||| 1) = 64 := bl_eq_of _ 63 (by simpa using hsg.2) (by simpa using hsg.1)
  have hv0 : 0 < v := by omega
  -- the exponent
  have hnp : 0 < num := by
    rcases Nat.eq_zero_or_pos num with a | a
    · subst a
      rw [Nat.zero_mul] at hnum
      have := Nat.mul_pos (Nat.mul_pos hv0 (P2_pos (2 * u))) hd
      omega
    · exact a
  have blv : bl v = 127 ∨ bl v = 128 := by
    have l : bl v ≤ 128 := (bl_le_iff _ _).2 hv2
    rcases Nat.lt_or_ge (bl v) 127 with a | a
    · have := (bl_le_iff v 126).1 (by omega)
      have e : (2 : Nat) ^ 126 = 85070591730234615865843651857942052864 := by decide
      omega
    · omega
  have hL : lgP num den = 2 * u + (bl v : Int) - 1 := lgP_eq hnp hd (rep_lg (M := M) hv0 hd (Or.inl hnum))
  have hre : rootE E num den = max (u + 63) (eminI E) := by
    unfold rootE; rw [hL]
    rcases blv with b | b
    · rw [b]; congr 1; omega
    · rw [b]; congr 1; omega
  rw [hre] at hn1 hn2
  rw [softR_raised E M mode false u _ h (by omega) hsg.2, hbl, hre]
  rw [show u + ((64 : Nat) : Int) - 1 = u + 63 by omega]
  have hbias : eminI E ≤ (biasP E : Int) := by unfold eminI biasP; omega
  rw [if_neg (by omega)]
  congr 1
  have he : u + 63 ≤ max (u + 63) (eminI E) := by omega
  generalize max (u + 63) (eminI E) = e at *
  have hk : 63 - (M : Int) + e - (u + 63) = ((63 - (M : Int) + e - (u + 63)).toNat : Int) := by omega
  have hk2 : 2 ≤ (63 - (M : Int) + e - (u + 63)).toNat := by omega
  generalize (63 - (M : Int) + e - (u + 63)).toNat = k at *
  rw [scale_eq (c := 2 * ((M : Int) - e)) (k := 2 * k) (l := 0) (by omega), Nat.pow_zero, Nat.mul_one] at hnum
  rw [show 64 - 64 = 0 by decide, Nat.pow_zero, Nat.mul_one]
  exact (root_raised hk2 (Nat.mul_pos hd (P2_pos _)) hnum hs1 hs2 hn1 hn2).symm

end Go.Proofs.Ygcoah
