/-
  PLAIN: softR is roundR where (exp, sig) stands for num/den. No Go in sight.
-/
import Derived.Test.YgcoahPl1
namespace Go.Proofs.Ygcoah

/-- (exp, sig) stands for num/den: it is it, or sig is odd, long enough, and num/den lies strictly beside it. -/
def Rep (M num den : Nat) (exp : Int) (sig : Nat) : Prop :=
  num * P2 (-exp) = sig * P2 exp * den ∨
  (sig % 2 = 1 ∧ 2 ^ (M + 2) ≤ sig ∧ (sig - 1) * P2 exp * den < num * P2 (-exp) ∧ num * P2 (-exp) < (sig + 1) * P2 exp * den)

theorem softR_raised (E M mode : Nat) (neg : Bool) (exp : Int) (sig : Nat) (h : FOk E M) (hs0 : 0 < sig) (hs : sig < 18446744073709551616) :
    softR E M mode neg exp sig = if (biasP E : Int) < max (exp + (bl sig : Int) - 1) (eminI E) then ovfP E M mode neg
      else packP E M mode neg (max (exp + (bl sig : Int) - 1) (eminI E)) (raisedP mode neg (sig * 2 ^ (64 - bl sig)) (2 ^ (63 - (M : Int) + max (exp + (bl sig : Int) - 1) (eminI E) - (exp + (bl sig : Int) - 1)).toNat)) := by
  have hb : bl sig ≤ 64 := (bl_le_iff _ _).2 hs
  have hb0 := bl_pos sig hs0
  have hrl : exp + (bl sig : Int) - 1 = exp - ((64 - bl sig : Nat) : Int) + 63 := by omega
  obtain ⟨_, _, _, hM⟩ := h
  by_cases c : (biasP E : Int) < max (exp + (bl sig : Int) - 1) (eminI E)
  · rw [if_pos c]
    exact softR_over rfl hrl rfl c
  · rw [if_neg c]
    have hk : 63 - (M : Int) + max (exp + (bl sig : Int) - 1) (eminI E) - (exp + (bl sig : Int) - 1) = ((63 - (M : Int) + max (exp + (bl sig : Int) - 1) (eminI E) - (exp + (bl sig : Int) - 1)).toNat : Int) := by omega
    rw [softR_of rfl rfl hrl rfl c hk]
    have hk0 : 0 < (63 - (M : Int) + max (exp + (bl sig : Int) - 1) (eminI E) - (exp + (bl sig : Int) - 1)).toNat := by omega
    generalize (63 - (M : Int) + max (exp + (bl sig : Int) - 1) (eminI E) - (exp + (bl sig : Int) - 1)).toNat = k at *
    have hsl : sig * 2 ^ (64 - bl sig) < 18446744073709551616 := by
      have a : sig * 2 ^ (64 - bl sig) < 2 ^ bl sig * 2 ^ (64 - bl sig) := Nat.mul_lt_mul_of_pos_right (bl_bounds sig hs0).2 (pow_pos2 _)
      rw [← Nat.pow_add, show bl sig + (64 - bl sig) = 64 by omega] at a
      exact a
    obtain ⟨c1, c2⟩ := cut_cmp (sig * 2 ^ (64 - bl sig)) k hsl hk0
    rw [c1, c2]
    rfl

theorem rep_pos {M num den : Nat} {exp : Int} {sig : Nat} (hs0 : 0 < sig) (hd : 0 < den) (h : Rep M num den exp sig) : 0 < num := by
  rcases Nat.eq_zero_or_pos num with a | a
  · subst a
    rcases h with h | ⟨h1, h2, h3, h4⟩
    · rw [Nat.zero_mul] at h
      have := Nat.mul_pos (Nat.mul_pos hs0 (P2_pos exp)) hd
      omega
    · rw [Nat.zero_mul] at h3
      omega
  · exact a

theorem rep_lg {M num den : Nat} {exp : Int} {sig : Nat} (hs0 : 0 < sig) (hd : 0 < den) (h : Rep M num den exp sig) : IsLg num den (exp + (bl sig : Int) - 1) := by
  obtain ⟨b1, b2⟩ := bl_bounds sig hs0
  have hb0 := bl_pos sig hs0
  have lo : 2 ^ (bl sig - 1) * P2 exp * den ≤ num * P2 (-exp) := by
    rcases h with h | ⟨h1, h2, h3, h4⟩
    · rw [h]; exact Nat.mul_le_mul_right _ (Nat.mul_le_mul_right _ b1)
    · have hb : 2 ^ (bl sig - 1) ≤ sig - 1 := by
        rcases Nat.eq_zero_or_pos (bl sig - 1) with z | z
        · exfalso
          have : 2 ^ bl sig ≤ 2 := by
            have := Nat.pow_le_pow_right (n := 2) (by decide) (show bl sig ≤ 1 by omega)
            simpa using this
          have h4 : 4 ≤ 2 ^ (M + 2) := by rw [Nat.pow_add]; have := pow_pos2 M; omega
          omega
        · have e : 2 ^ (bl sig - 1) = 2 * 2 ^ (bl sig - 1 - 1) := by rw [← Nat.pow_succ']; congr 1; omega
          omega
      exact Nat.le_of_lt (Nat.lt_of_le_of_lt (Nat.mul_le_mul_right _ (Nat.mul_le_mul_right _ hb)) h3)
  have hi : num * P2 (-exp) < 2 ^ bl sig * P2 exp * den := by
    rcases h with h | ⟨h1, h2, h3, h4⟩
    · rw [h]; exact Nat.mul_lt_mul_of_pos_right (Nat.mul_lt_mul_of_pos_right b2 (P2_pos _)) hd
    · exact Nat.lt_of_lt_of_le h4 (Nat.mul_le_mul_right _ (Nat.mul_le_mul_right _ b2))
  constructor
  · rw [scale_le (c := -(exp + (bl sig : Int) - 1)) (k := bl sig - 1) (l := 0) (by omega), Nat.pow_zero, Nat.mul_one, Int.neg_neg, Nat.mul_comm _ (2 ^ (bl sig - 1))] at lo
    exact Nat.le_of_mul_le_mul_left lo (pow_pos2 _)
  · rw [scale_lt (c := -(exp + (bl sig : Int) - 1 + 1)) (k := bl sig) (l := 0) (by omega), Nat.pow_zero, Nat.mul_one, Int.neg_neg, Nat.mul_comm _ (2 ^ bl sig)] at hi
    exact Nat.lt_of_mul_lt_mul_left hi

/-- roundPack's answer is the exact rounding of what (exp, sig) stands for. -/
theorem soft_is_round (E M mode : Nat) (neg : Bool) (exp : Int) (sig num den : Nat) (h : FOk E M) (hs0 : 0 < sig) (hs : sig < 18446744073709551616) (hd : 0 < den) (hr : Rep M num den exp sig) :
    softR E M mode neg exp sig = roundR E M mode neg num den := by
  have hn := rep_pos hs0 hd hr
  have hL := lgP_eq hn hd (rep_lg hs0 hd hr)
  rw [softR_raised E M mode neg exp sig h hs0 hs]
  unfold roundR
  rw [if_neg (show ¬ num = 0 by omega)]
  simp only []
  rw [hL]
  have hb : bl sig ≤ 64 := (bl_le_iff _ _).2 hs
  obtain ⟨_, _, _, hM⟩ := h
  by_cases c : (biasP E : Int) < max (exp + (bl sig : Int) - 1) (eminI E)
  · rw [if_pos c, if_pos c]
  rw [if_neg c, if_neg c]
  congr 1
  have hk : 63 - (M : Int) + max (exp + (bl sig : Int) - 1) (eminI E) - (exp + (bl sig : Int) - 1) = ((63 - (M : Int) + max (exp + (bl sig : Int) - 1) (eminI E) - (exp + (bl sig : Int) - 1)).toNat : Int) := by omega
  generalize (63 - (M : Int) + max (exp + (bl sig : Int) - 1) (eminI E) - (exp + (bl sig : Int) - 1)).toNat = k at *
  have he : exp + (bl sig : Int) - 1 ≤ max (exp + (bl sig : Int) - 1) (eminI E) := by omega
  generalize max (exp + (bl sig : Int) - 1) (eminI E) = e at *
  have hD : 0 < den * P2 (-((M : Int) - e)) := Nat.mul_pos hd (P2_pos _)
  rcases hr with hr | ⟨h1, h2, h3, h4⟩
  · rw [scale_eq (c := (M : Int) - e) (k := k) (l := 64 - bl sig) (by omega)] at hr
    exact (raised_exact hD (pow_pos2 k) hr).symm
  · have hbl : M + 3 ≤ bl sig := by
      rcases Nat.lt_or_ge (bl sig) (M + 3) with z | z
      · have := (bl_le_iff sig (M + 2)).1 (by omega); omega
      · exact z
    have hk2 : (e - (M : Int) - exp) = ((e - (M : Int) - exp).toNat : Int) := by omega
    have hk3 : 2 ≤ (e - (M : Int) - exp).toNat := by omega
    generalize (e - (M : Int) - exp).toNat = k' at *
    have ek : k = k' + (64 - bl sig) := by omega
    rw [scale_gt (c := (M : Int) - e) (k := k') (l := 0) (by omega), Nat.pow_zero, Nat.mul_one] at h3
    rw [scale_lt (c := (M : Int) - e) (k := k') (l := 0) (by omega), Nat.pow_zero, Nat.mul_one] at h4
    have e4 : 2 ^ k' = 4 * 2 ^ (k' - 2) := by
      rw [show (4 : Nat) = 2 ^ 2 by decide, ← Nat.pow_add]; congr 1; omega
    rw [e4] at h3 h4
    rw [raised_sticky hD (pow_pos2 (k' - 2)) h1 h3 h4, ← e4]
    refine raised_exact (pow_pos2 k') (pow_pos2 k) ?_ |>.symm
    rw [ek, Nat.pow_add, Nat.mul_comm (2 ^ k'), Nat.mul_assoc]

end Go.Proofs.Ygcoah
