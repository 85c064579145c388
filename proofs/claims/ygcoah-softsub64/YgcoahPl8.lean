/-
  PLAIN: soft's sum is exact's, the special operands too. No Go in sight.
-/
import Derived.Test.YgcoahAddS
import Derived.Test.YgcoahAddX
import Derived.Test.YgcoahPl4
namespace Go.Proofs.Ygcoah

/-- The pattern of an infinity. -/
theorem cut_inf (E M x : Nat) (h : FOk E M) (hc : (unp E M x).cls = 3) : cutP E M x = infS E M (negOf E M x) := by
  have h1 : expOf E M x = 2 ^ E - 1 ∧ manOf M x = 0 := by
    unfold unp at hc
    by_cases c1 : expOf E M x = 2 ^ E - 1
    · rw [if_pos c1] at hc
      by_cases c2 : manOf M x = 0
      · exact ⟨c1, c2⟩
      · rw [if_neg c2] at hc; cases hc
    · rw [if_neg c1] at hc
      by_cases c3 : expOf E M x = 0
      · rw [if_pos c3] at hc
        by_cases c2 : manOf M x = 0
        · rw [if_pos c2] at hc; cases hc
        · rw [if_neg c2] at hc; cases hc
      · rw [if_neg c3] at hc; cases hc
  have hE := h.powE
  unfold expOf at h1
  unfold manOf at h1
  unfold cutP infS infP sgnP negOf
  -- x % 2^(E+M+1) = x%2^M + 2^M * ((x/2^M) % 2^E) + 2^(E+M) * (x / 2^(E+M) % 2)
  have e1 : x % 2 ^ (E + M + 1) = x % 2 ^ (E + M) + 2 ^ (E + M) * (x / 2 ^ (E + M) % 2) := by
    rw [Nat.pow_succ, Nat.mod_mul]
  have e2 : x % 2 ^ (E + M) = x % 2 ^ M + 2 ^ M * (x / 2 ^ M % 2 ^ E) := by
    rw [Nat.add_comm E M, Nat.pow_add, Nat.mod_mul]
  rw [e1, e2, h1.1, h1.2, Nat.zero_add, Nat.mul_comm (2 ^ M)]
  rcases Nat.mod_two_eq_zero_or_one (x / 2 ^ (E + M)) with c | c
  · rw [c]; simp
  · rw [c]; simp

theorem finPt (E M x : Nat) (h : (unp E M x).cls ≤ 2) : FinPt M (unp E M x) := by
  by_cases c : (unp E M x).cls = 0
  · exact Or.inl ⟨c, (unp_zero E M x c).1, (unp_zero E M x c).2⟩
  · exact Or.inr ⟨c, unp_man E M x (by omega)⟩

theorem add_same (E M mode x y : Nat) (h : FOk E M) : addS E M mode (unp E M x) (unp E M y) = addX E M mode x y := by
  obtain ⟨f1, f2, f3, f4⟩ := unp_facts E M x h
  obtain ⟨g1, g2, g3, g4⟩ := unp_facts E M y h
  unfold addS addX
  by_cases c1 : (unp E M x).cls = 4 ∨ (unp E M y).cls = 4
  · rw [if_pos c1, if_pos c1]
  rw [if_neg c1, if_neg c1]
  have nx := unp_neg E M x (by omega)
  have ny := unp_neg E M y (by omega)
  rw [nx, ny]
  by_cases c2 : (unp E M x).cls = 3 ∧ (unp E M y).cls = 3 ∧ (unp E M x).neg ≠ (unp E M y).neg
  · rw [if_pos c2, if_pos c2]
  rw [if_neg c2, if_neg c2]
  by_cases c3 : (unp E M x).cls = 3
  · rw [if_pos c3, if_pos c3, cut_inf E M x h c3, nx]
  rw [if_neg c3, if_neg c3]
  by_cases c4 : (unp E M y).cls = 3
  · rw [if_pos c4, if_pos c4, cut_inf E M y h c4, ny]
  rw [if_neg c4, if_neg c4]
  rw [add_plain E M mode _ _ h (finPt E M x (by omega)) (finPt E M y (by omega))]
  unfold addE sumE opN opD
  rw [if_pos (show (unp E M x).cls ≤ 2 by omega), if_pos (show (unp E M x).cls ≤ 2 by omega), if_pos (show (unp E M y).cls ≤ 2 by omega), if_pos (show (unp E M y).cls ≤ 2 by omega)]

theorem sub_same (E M mode x y : Nat) (h : FOk E M) : addS E M mode (unp E M x) (unp E M (y ^^^ sbP E M)) = addX E M mode x (y ^^^ sbP E M) := add_same E M mode x _ h

end Go.Proofs.Ygcoah
