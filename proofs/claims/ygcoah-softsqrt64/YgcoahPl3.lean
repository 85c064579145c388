/-
  PLAIN: what jam gives stands for what was jammed; product and quotient. No Go in sight.
-/
import Derived.Test.YgcoahPl2
import Derived.Test.YgcoahSoft6
namespace Go.Proofs.Ygcoah

theorem jam_rep (M n num den : Nat) (e : Int) (hM : M ≤ 52) (h0 : 0 < n) (hn : n < 340282366920938463463374607431768211456) (hd : 0 < den)
    (h : num * P2 (-e) = n * (den * P2 e) ∨ (n % 2 = 1 ∧ 65 ≤ bl n ∧ (n - 1) * (den * P2 e) < num * P2 (-e) ∧ num * P2 (-e) < (n + 1) * (den * P2 e))) :
    Rep M num den (e - 64 + (bl n : Int)) (jamP n) := by
  have hs := norm_128 n h0 hn
  obtain ⟨b1, _⟩ := bl_bounds n h0
  have hb : bl n ≤ 128 := (bl_le_iff _ _).2 hn
  have hb0 := bl_pos n h0
  have hB : 0 < den * P2 e := Nat.mul_pos hd (P2_pos _)
  have key : ((128 - bl n : Nat) : Int) = ((64 : Nat) : Int) - (-e) - (e - 64 + (bl n : Int)) := by omega
  have hlow : 170141183460469231731687303715884105728 ≤ n * 2 ^ (128 - bl n) := by
    have h3 : 2 ^ (bl n - 1) * 2 ^ (128 - bl n) ≤ n * 2 ^ (128 - bl n) := Nat.mul_le_mul_right _ b1
    rw [← Nat.pow_add, show bl n - 1 + (128 - bl n) = 127 by omega, show (2 : Nat) ^ 127 = 170141183460469231731687303715884105728 by decide] at h3
    exact h3
  have hM2 : 2 ^ (M + 2) ≤ 18014398509481984 := by
    have := Nat.pow_le_pow_right (n := 2) (by decide) (show M + 2 ≤ 54 by omega)
    simpa using this
  -- strictly between q and q+1: sticky
  have sticky : ∀ q : Nat, 9223372036854775808 ≤ q → q * (den * P2 e) * 18446744073709551616 < num * P2 (-e) * 2 ^ (128 - bl n) → num * P2 (-e) * 2 ^ (128 - bl n) < (q + 1) * (den * P2 e) * 18446744073709551616 →
      Rep M num den (e - 64 + (bl n : Int)) (q ||| 1) := by
    intro q hq g1 g2
    rw [or_one]
    refine Or.inr ⟨by omega, by omega, ?_, ?_⟩
    · rw [scale_gt key, Int.neg_neg]
      refine Nat.lt_of_le_of_lt ?_ g1
      rw [Nat.mul_assoc, Nat.mul_assoc q, Nat.mul_comm (2 ^ 64)]
      exact Nat.mul_le_mul_right _ (by omega)
    · rw [scale_lt key, Int.neg_neg]
      refine Nat.lt_of_lt_of_le g2 ?_
      rw [Nat.mul_assoc, Nat.mul_assoc (q / 2 * 2 + 1 + 1), Nat.mul_comm (2 ^ 64)]
      exact Nat.mul_le_mul_right _ (by omega)
  unfold jamP
  rcases h with h | ⟨h1, h2, h3, h4⟩
  · have hA : num * P2 (-e) * 2 ^ (128 - bl n) = n * 2 ^ (128 - bl n) * (den * P2 e) := by rw [h, Nat.mul_right_comm]
    split
    · rename_i c
      refine Or.inl ?_
      rw [scale_eq key, Int.neg_neg, hA]
      congr 1
      have := Nat.div_add_mod (n * 2 ^ (128 - bl n)) 18446744073709551616
      rw [show (2 : Nat) ^ 64 = 18446744073709551616 by decide]
      omega
    · rename_i c
      generalize n * 2 ^ (128 - bl n) = s at *
      refine sticky _ (by omega) ?_ ?_
      · rw [hA, Nat.mul_right_comm]
        exact Nat.mul_lt_mul_of_pos_right (by omega) hB
      · rw [hA, Nat.mul_right_comm]
        exact Nat.mul_lt_mul_of_pos_right (by omega) hB
  · -- n is odd, and what stands beside it is not zero
    have e64 : (18446744073709551616 : Nat) = 2 ^ (64 - (128 - bl n)) * 2 ^ (128 - bl n) := by rw [← Nat.pow_add, show 64 - (128 - bl n) + (128 - bl n) = 64 by omega]
    have hq : n * 2 ^ (128 - bl n) / 18446744073709551616 = n / 2 ^ (64 - (128 - bl n)) := by
      rw [e64, Nat.mul_div_mul_right _ _ (pow_pos2 _)]
    have hr : n * 2 ^ (128 - bl n) % 18446744073709551616 = n % 2 ^ (64 - (128 - bl n)) * 2 ^ (128 - bl n) := by
      rw [e64, Nat.mul_mod_mul_right]
    have h2' : (2 : Nat) ^ (64 - (128 - bl n)) = 2 * 2 ^ (64 - (128 - bl n) - 1) := by rw [← Nat.pow_succ']; congr 1; omega
    have hodd : n % 2 ^ (64 - (128 - bl n)) % 2 = 1 := by rw [Nat.mod_mod_of_dvd n ⟨_, h2'⟩]; exact h1
    have hdm := Nat.div_add_mod n (2 ^ (64 - (128 - bl n)))
    have hml := Nat.mod_lt n (pow_pos2 (64 - (128 - bl n)))
    have hpl := pow_pos2 (128 - bl n)
    rw [if_neg (by rw [hr, Nat.mul_eq_zero]; omega)]
    have hqb : 9223372036854775808 ≤ n * 2 ^ (128 - bl n) / 18446744073709551616 := by
      generalize n * 2 ^ (128 - bl n) = s at *; omega
    rw [hq] at hqb ⊢
    refine sticky _ hqb ?_ ?_
    · refine Nat.lt_of_le_of_lt ?_ (Nat.mul_lt_mul_of_pos_right h3 hpl)
      rw [Nat.mul_right_comm (n - 1), Nat.mul_right_comm _ _ 18446744073709551616]
      apply Nat.mul_le_mul_right
      conv => lhs; rw [e64]
      rw [← Nat.mul_assoc]
      apply Nat.mul_le_mul_right
      rw [Nat.mul_comm (n / _)]
      omega
    · refine Nat.lt_of_lt_of_le (Nat.mul_lt_mul_of_pos_right h4 hpl) ?_
      rw [Nat.mul_right_comm (n + 1), Nat.mul_right_comm _ _ 18446744073709551616]
      apply Nat.mul_le_mul_right
      conv => rhs; rw [e64]
      rw [← Nat.mul_assoc]
      apply Nat.mul_le_mul_right
      rw [Nat.add_mul, Nat.mul_comm (n / _)]
      omega

/-- The product. -/
theorem mul_plain (E M mode mx my : Nat) (neg : Bool) (ex ey : Int) (h : FOk E M) (hx0 : 0 < mx) (hy0 : 0 < my) (hx : mx < 9007199254740992) (hy : my < 9007199254740992) :
    softR E M mode neg (ex + ey - 64 + (bl (mx * my) : Int)) (jamP (mx * my)) = roundR E M mode neg (mx * P2 ex * (my * P2 ey)) (P2 (-ex) * P2 (-ey)) := by
  have hp := Nat.mul_pos hx0 hy0
  have hl : mx * my < 340282366920938463463374607431768211456 := by
    have : mx * my < 9007199254740992 * 9007199254740992 := Nat.mul_lt_mul'' hx hy
    omega
  obtain ⟨j1, j2⟩ := jamP_pos _ hp hl
  have hd : 0 < P2 (-ex) * P2 (-ey) := Nat.mul_pos (P2_pos _) (P2_pos _)
  refine soft_is_round E M mode neg _ _ _ _ h j1 j2 hd ?_
  refine jam_rep M _ _ _ (ex + ey) h.2.2.2 hp hl hd (Or.inl ?_)
  have e : P2 ex * P2 ey * P2 (-(ex + ey)) = P2 (-ex) * P2 (-ey) * P2 (ex + ey) := by
    unfold P2
    rw [← Nat.pow_add, ← Nat.pow_add, ← Nat.pow_add, ← Nat.pow_add]
    congr 1
    omega
  calc mx * P2 ex * (my * P2 ey) * P2 (-(ex + ey)) = mx * my * (P2 ex * P2 ey * P2 (-(ex + ey))) := by
        generalize P2 ex = a, P2 ey = b, P2 (-(ex + ey)) = c
        rw [Nat.mul_mul_mul_comm, Nat.mul_assoc]
    _ = _ := by rw [e]

/-- The quotient: q and r as the long division gives them, both sides moved up alike (F). -/
theorem div_plain (E M mode mx my F q r : Nat) (neg : Bool) (ex ey : Int) (h : FOk E M) (hF : 0 < F) (hy0 : 0 < my) (hq0 : 4611686018427387904 ≤ q) (hq : q < 18446744073709551616) (hqr : mx * F * 9223372036854775808 = q * (my * F) + r) (hr : r < my * F) :
    softR E M mode neg (ex - ey - 63) (if r = 0 then q else q ||| 1) = roundR E M mode neg (mx * P2 ex * P2 (-ey)) (P2 (-ex) * (my * P2 ey)) := by
  have hd : 0 < P2 (-ex) * (my * P2 ey) := Nat.mul_pos (P2_pos _) (Nat.mul_pos hy0 (P2_pos _))
  have hs : 0 < (if r = 0 then q else q ||| 1) ∧ (if r = 0 then q else q ||| 1) < 18446744073709551616 := by
    split
    · omega
    · rw [or_one]; omega
  refine soft_is_round E M mode neg _ _ _ _ h hs.1 hs.2 hd ?_
  have hM2 : 2 ^ (M + 2) ≤ 18014398509481984 := by
    have := Nat.pow_le_pow_right (n := 2) (by decide) (show M + 2 ≤ 54 by have := h.2.2.2; omega)
    simpa using this
  have e : P2 ex * P2 (-ey) * P2 (-(ex - ey - 63)) = 9223372036854775808 * (P2 (-ex) * P2 ey * P2 (ex - ey - 63)) := by
    rw [show (9223372036854775808 : Nat) = 2 ^ 63 by decide]
    unfold P2
    rw [← Nat.pow_add, ← Nat.pow_add, ← Nat.pow_add, ← Nat.pow_add, ← Nat.pow_add]
    congr 1
    omega
  have eL : mx * P2 ex * P2 (-ey) * P2 (-(ex - ey - 63)) = mx * 9223372036854775808 * (P2 (-ex) * P2 ey * P2 (ex - ey - 63)) := by
    rw [Nat.mul_assoc mx, Nat.mul_assoc mx, e, Nat.mul_assoc mx]
  have eR : ∀ σ : Nat, σ * P2 (ex - ey - 63) * (P2 (-ex) * (my * P2 ey)) = σ * my * (P2 (-ex) * P2 ey * P2 (ex - ey - 63)) := by
    intro σ
    generalize P2 (ex - ey - 63) = a, P2 (-ex) = b, P2 ey = c
    simp only [Nat.mul_left_comm, Nat.mul_comm]
  have hZ : 0 < P2 (-ex) * P2 ey * P2 (ex - ey - 63) := Nat.mul_pos (Nat.mul_pos (P2_pos _) (P2_pos _)) (P2_pos _)
  have hqr' : mx * 9223372036854775808 * F = q * my * F + r := by rw [Nat.mul_right_comm, hqr, Nat.mul_assoc]
  unfold Rep
  rw [eL, eR]
  generalize P2 (-ex) * P2 ey * P2 (ex - ey - 63) = Z at *
  by_cases c : r = 0
  · refine Or.inl ?_
    rw [if_pos c]
    rw [c, Nat.add_zero] at hqr'
    rw [Nat.eq_of_mul_eq_mul_right hF hqr']
  · refine Or.inr ?_
    rw [if_neg c, or_one, eR, eR]
    have g1 : q * my < mx * 9223372036854775808 := by
      apply Nat.lt_of_mul_lt_mul_right (a := F); omega
    have g2 : mx * 9223372036854775808 < (q + 1) * my := by
      apply Nat.lt_of_mul_lt_mul_right (a := F); rw [Nat.add_mul, Nat.add_mul, Nat.one_mul]; omega
    refine ⟨by omega, by omega, ?_, ?_⟩
    · apply Nat.mul_lt_mul_of_pos_right _ hZ
      exact Nat.lt_of_le_of_lt (Nat.mul_le_mul_right _ (by omega)) g1
    · apply Nat.mul_lt_mul_of_pos_right _ hZ
      exact Nat.lt_of_lt_of_le g2 (Nat.mul_le_mul_right _ (by omega))

end Go.Proofs.Ygcoah
