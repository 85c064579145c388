/-
  PLAIN: the exact rounding of a fraction (roundR), and that roundPack's answer (softR) is the same
  where (exp, sig) stands for the fraction. No Go in sight.
-/
import Derived.Test.YgcoahRound
namespace Go.Proofs.Ygcoah

/-- 2^k, for k not negative; 1 else. -/
def P2 (k : Int) : Nat := 2 ^ k.toNat

theorem P2_pos (k : Int) : 0 < P2 k := Nat.pow_pos (by decide)

/-- The greatest e with 2^e <= num/den. -/
def lgP (num den : Nat) : Int :=
  if num * P2 (-((bl num : Int) - (bl den : Int))) < den * P2 ((bl num : Int) - (bl den : Int)) then (bl num : Int) - (bl den : Int) - 1 else (bl num : Int) - (bl den : Int)

/-- The floor of N/D, raised by the mode's rule. -/
def raisedP (mode : Nat) (neg : Bool) (N D : Nat) : Nat :=
  N / D + if raiseQ mode neg (decide (N / D % 2 = 1)) (cmpI (2 * (N % D)) D) (decide (N % D ≠ 0)) then 1 else 0

/-- What exact.RoundFlags answers for num/den, den not zero. -/
def roundR (E M mode : Nat) (neg : Bool) (num den : Nat) : Nat :=
  if num = 0 then sgnP E M neg
  else
    let e := max (lgP num den) (eminI E)
    if (biasP E : Int) < e then ovfP E M mode neg
    else packP E M mode neg e (raisedP mode neg (num * P2 ((M : Int) - e)) (den * P2 (-((M : Int) - e))))

/-- 2^L <= num/den < 2^(L+1). -/
def IsLg (num den : Nat) (L : Int) : Prop := den * P2 L ≤ num * P2 (-L) ∧ num * P2 (-(L + 1)) < den * P2 (L + 1)

/-- num*2^-a against σ*2^a*den is num*2^c*2^k against σ*2^l*den*2^-c, where k = l - c - a. -/
theorem scale_eqs (num den σ : Nat) (a c : Int) (k l : Nat) (h : (k : Int) = (l : Int) - c - a) :
    (num * P2 (-a)) * (P2 c * 2 ^ k) = (num * P2 c * 2 ^ k) * P2 (-a) ∧
    (σ * P2 a * den) * (P2 c * 2 ^ k) = (σ * 2 ^ l * (den * P2 (-c))) * P2 (-a) := by
  have e : P2 a * P2 c * 2 ^ k = 2 ^ l * P2 (-c) * P2 (-a) := by
    unfold P2
    rw [← Nat.pow_add, ← Nat.pow_add, ← Nat.pow_add, ← Nat.pow_add]
    congr 1
    omega
  constructor
  · generalize P2 (-a) = A, P2 c = C, 2 ^ k = K
    rw [Nat.mul_assoc, Nat.mul_comm A, ← Nat.mul_assoc, ← Nat.mul_assoc]
  · calc (σ * P2 a * den) * (P2 c * 2 ^ k) = σ * den * (P2 a * P2 c * 2 ^ k) := by
          generalize P2 a = A, P2 c = C, 2 ^ k = K
          simp only [Nat.mul_left_comm, Nat.mul_comm]
      _ = σ * den * (2 ^ l * P2 (-c) * P2 (-a)) := by rw [e]
      _ = _ := by
          generalize P2 (-a) = A, P2 (-c) = C, 2 ^ l = K
          simp only [Nat.mul_left_comm, Nat.mul_comm]

theorem scale_eq {num den σ : Nat} {a c : Int} {k l : Nat} (h : (k : Int) = (l : Int) - c - a) :
    num * P2 (-a) = σ * P2 a * den ↔ num * P2 c * 2 ^ k = σ * 2 ^ l * (den * P2 (-c)) := by
  obtain ⟨h1, h2⟩ := scale_eqs num den σ a c k l h
  constructor
  · intro e; rw [e] at h1; exact Nat.eq_of_mul_eq_mul_right (P2_pos (-a)) (h1.symm.trans h2)
  · intro e; rw [← e] at h2; exact Nat.eq_of_mul_eq_mul_right (Nat.mul_pos (P2_pos c) (pow_pos2 k)) (h1.trans h2.symm)

theorem scale_lt {num den σ : Nat} {a c : Int} {k l : Nat} (h : (k : Int) = (l : Int) - c - a) :
    num * P2 (-a) < σ * P2 a * den ↔ num * P2 c * 2 ^ k < σ * 2 ^ l * (den * P2 (-c)) := by
  obtain ⟨h1, h2⟩ := scale_eqs num den σ a c k l h
  constructor
  · intro e
    have := Nat.mul_lt_mul_of_pos_right e (Nat.mul_pos (P2_pos c) (pow_pos2 k))
    rw [h1, h2] at this
    exact Nat.lt_of_mul_lt_mul_right this
  · intro e
    have := Nat.mul_lt_mul_of_pos_right e (P2_pos (-a))
    rw [← h1, ← h2] at this
    exact Nat.lt_of_mul_lt_mul_right this

theorem scale_gt {num den σ : Nat} {a c : Int} {k l : Nat} (h : (k : Int) = (l : Int) - c - a) :
    σ * P2 a * den < num * P2 (-a) ↔ σ * 2 ^ l * (den * P2 (-c)) < num * P2 c * 2 ^ k := by
  obtain ⟨h1, h2⟩ := scale_eqs num den σ a c k l h
  constructor
  · intro e
    have := Nat.mul_lt_mul_of_pos_right e (Nat.mul_pos (P2_pos c) (pow_pos2 k))
    rw [h1, h2] at this
    exact Nat.lt_of_mul_lt_mul_right this
  · intro e
    have := Nat.mul_lt_mul_of_pos_right e (P2_pos (-a))
    rw [← h1, ← h2] at this
    exact Nat.lt_of_mul_lt_mul_right this

theorem scale_le {num den σ : Nat} {a c : Int} {k l : Nat} (h : (k : Int) = (l : Int) - c - a) :
    σ * P2 a * den ≤ num * P2 (-a) ↔ σ * 2 ^ l * (den * P2 (-c)) ≤ num * P2 c * 2 ^ k := by
  rw [← Nat.not_lt, ← Nat.not_lt, scale_lt h]

theorem isLg_unique {num den : Nat} {L L' : Int} (h : IsLg num den L) (h' : IsLg num den L') : L = L' := by
  have key : ∀ {L L' : Int}, IsLg num den L → IsLg num den L' → ¬ L < L' := by
    intro L L' h h' c
    have h1 := h.2
    have h2 := h'.1
    have h1' : num * P2 (-(L + 1)) < 1 * P2 (L + 1) * den := by rw [Nat.one_mul, Nat.mul_comm (P2 _)]; exact h1
    rw [scale_lt (c := -L') (k := (L' - (L + 1)).toNat) (l := 0) (by omega)] at h1'
    have h3 : num * P2 (-L') ≤ num * P2 (-L') * 2 ^ (L' - (L + 1)).toNat := Nat.le_mul_of_pos_right _ (pow_pos2 _)
    rw [Int.neg_neg] at h1'
    omega
  have a := key h h'
  have b := key h' h
  omega

theorem lgP_isLg (num den : Nat) (hn : 0 < num) (hd : 0 < den) : IsLg num den (lgP num den) := by
  obtain ⟨n1, n2⟩ := bl_bounds num hn
  obtain ⟨d1, d2⟩ := bl_bounds den hd
  have bn := bl_pos num hn
  have bd := bl_pos den hd
  unfold lgP
  split
  · rename_i c
    refine ⟨?_, ?_⟩
    · -- den * P2 (L) <= num * P2 (-L), L = bn - bd - 1
      have e1 : den * P2 ((bl num : Int) - bl den - 1) ≤ 2 ^ bl den * P2 ((bl num : Int) - bl den - 1) := Nat.mul_le_mul_right _ (by omega)
      have e2 : 2 ^ (bl num - 1) * P2 (-((bl num : Int) - bl den - 1)) ≤ num * P2 (-((bl num : Int) - bl den - 1)) := Nat.mul_le_mul_right _ n1
      have e3 : 2 ^ bl den * P2 ((bl num : Int) - bl den - 1) = 2 ^ (bl num - 1) * P2 (-((bl num : Int) - bl den - 1)) := by
        unfold P2; rw [← Nat.pow_add, ← Nat.pow_add]; congr 1; omega
      omega
    · rw [show (bl num : Int) - bl den - 1 + 1 = bl num - bl den by omega]; exact c
  · rename_i c
    refine ⟨by omega, ?_⟩
    have e1 : num * P2 (-((bl num : Int) - bl den + 1)) < 2 ^ bl num * P2 (-((bl num : Int) - bl den + 1)) := Nat.mul_lt_mul_of_pos_right n2 (P2_pos _)
    have e2 : 2 ^ (bl den - 1) * P2 ((bl num : Int) - bl den + 1) ≤ den * P2 ((bl num : Int) - bl den + 1) := Nat.mul_le_mul_right _ d1
    have e3 : 2 ^ bl num * P2 (-((bl num : Int) - bl den + 1)) = 2 ^ (bl den - 1) * P2 ((bl num : Int) - bl den + 1) := by
      unfold P2; rw [← Nat.pow_add, ← Nat.pow_add]; congr 1; omega
    omega

theorem lgP_eq {num den : Nat} {L : Int} (hn : 0 < num) (hd : 0 < den) (h : IsLg num den L) : lgP num den = L := isLg_unique (lgP_isLg num den hn hd) h

/-! What cut leaves. -/
theorem cut_cmp (s k : Nat) (hs : s < 18446744073709551616) (hk : 0 < k) : cmpI (cutR s k) 9223372036854775808 = cmpI (2 * (s % 2 ^ k)) (2 ^ k) ∧ decide (cutR s k ≠ 0) = decide (s % 2 ^ k ≠ 0) := by
  unfold cutR
  by_cases c : k ≤ 64
  · rw [if_pos c]
    have e64 : (18446744073709551616 : Nat) = 2 ^ k * 2 ^ (64 - k) := by rw [← Nat.pow_add, show k + (64 - k) = 64 by omega]
    rw [e64, Nat.mul_mod_mul_right]
    have e63 : (9223372036854775808 : Nat) = 2 ^ (k - 1) * 2 ^ (64 - k) := by rw [← Nat.pow_add, show k - 1 + (64 - k) = 63 by omega]
    have ek : (2 : Nat) ^ k = 2 * 2 ^ (k - 1) := by rw [← Nat.pow_succ']; congr 1; omega
    have hp := pow_pos2 (64 - k)
    constructor
    · rw [e63]
      generalize s % 2 ^ k = r
      rw [ek]
      generalize 2 ^ (k - 1) = h, 2 ^ (64 - k) = t at *
      unfold cmpI
      have i1 : (r * t < h * t) = (2 * r < 2 * h) := by rw [Nat.mul_lt_mul_right hp]; apply propext; omega
      have i2 : (r * t = h * t) = (2 * r = 2 * h) := by rw [Nat.mul_left_inj (Nat.pos_iff_ne_zero.1 hp)]; apply propext; omega
      simp only [i1, i2]
    · congr 1
      apply propext
      simp only [ne_eq, Nat.mul_eq_zero]
      generalize 2 ^ (64 - k) = t at *
      omega
  · rw [if_neg c]
    have hk64 : (18446744073709551616 : Nat) ≤ 2 ^ (k - 1) := by
      have := Nat.pow_le_pow_right (n := 2) (by decide) (show 64 ≤ k - 1 by omega)
      simpa using this
    have ek : (2 : Nat) ^ k = 2 * 2 ^ (k - 1) := by rw [← Nat.pow_succ']; congr 1; omega
    rw [ek, Nat.mod_eq_of_lt (show s < 2 * 2 ^ (k - 1) by omega), cmpI_lt (show 2 * s < 2 * 2 ^ (k - 1) by omega)]
    by_cases c0 : s = 0
    · rw [if_pos c0, c0]; exact ⟨by decide, by decide⟩
    · rw [if_neg c0, decide_eq_true c0]; exact ⟨by decide, by decide⟩

/-- The floor and what it leaves: of one fraction in two shapes. -/
theorem raised_exact {mode : Nat} {neg : Bool} {N D s K : Nat} (hD : 0 < D) (hK : 0 < K) (h : N * K = s * D) : raisedP mode neg N D = raisedP mode neg s K := by
  have hq : N / D = s / K := by
    have e1 : N * K / (D * K) = N / D := Nat.mul_div_mul_right _ _ hK
    have e2 : s * D / (D * K) = s / K := by rw [Nat.mul_comm s, Nat.mul_div_mul_left _ _ hD]
    rw [← e1, h, e2]
  have hr : N % D * K = s % K * D := by
    have e1 : N % D * K = N * K % (D * K) := (Nat.mul_mod_mul_right _ _ _).symm
    rw [e1, h, Nat.mul_comm D K, Nat.mul_mod_mul_right]
  unfold raisedP
  have hc : cmpI (2 * (N % D)) D = cmpI (2 * (s % K)) K := by
    generalize N % D = r, s % K = ρ at *
    unfold cmpI
    have i1 : (2 * r < D) = (2 * ρ < K) := by
      apply propext
      rw [← Nat.mul_lt_mul_right hK, ← Nat.mul_lt_mul_right (a := D) (b := 2 * ρ) hD, Nat.mul_assoc, hr, ← Nat.mul_assoc, Nat.mul_comm D K]
    have i2 : (2 * r = D) = (2 * ρ = K) := by
      apply propext
      rw [← Nat.mul_left_inj (Nat.pos_iff_ne_zero.1 hK), ← Nat.mul_left_inj (a := D) (b := 2 * ρ) (Nat.pos_iff_ne_zero.1 hD), Nat.mul_assoc, hr, ← Nat.mul_assoc, Nat.mul_comm D K]
    simp only [i1, i2]
  have hz : decide (N % D ≠ 0) = decide (s % K ≠ 0) := by
    congr 1
    apply propext
    generalize N % D = r, s % K = ρ at *
    constructor
    · intro a b; rw [b, Nat.zero_mul, Nat.mul_eq_zero] at hr; omega
    · intro a b; rw [b, Nat.zero_mul, eq_comm, Nat.mul_eq_zero] at hr; omega
  rw [hq, hc, hz]

/-- The same where N*K lies strictly beside s*D, s odd and K a multiple of four. -/
theorem raised_sticky {mode : Nat} {neg : Bool} {N D s j : Nat} (hD : 0 < D) (hj : 0 < j) (ho : s % 2 = 1) (h1 : (s - 1) * D < N * (4 * j)) (h2 : N * (4 * j) < (s + 1) * D) :
    raisedP mode neg N D = raisedP mode neg s (4 * j) := by
  have hdm := Nat.div_add_mod s (4 * j)
  have hrl := Nat.mod_lt s (show 0 < 4 * j by omega)
  have hodd : s % (4 * j) % 2 = 1 := by rw [Nat.mod_mod_of_dvd s ⟨2 * j, by omega⟩]; exact ho
  unfold raisedP
  generalize s / (4 * j) = q, s % (4 * j) = ρ at *
  obtain ⟨t, ht⟩ : ∃ t, ρ = 2 * t + 1 := ⟨ρ / 2, by omega⟩
  subst ht
  subst hdm
  -- N = q*D + r
  have e1 : (4 * j * q + (2 * t + 1) - 1) * D = 4 * j * (q * D) + 2 * (t * D) := by
    rw [show 4 * j * q + (2 * t + 1) - 1 = 4 * j * q + 2 * t by omega, Nat.add_mul, Nat.mul_assoc, Nat.mul_assoc 2]
  have e2 : (4 * j * q + (2 * t + 1) + 1) * D = 4 * j * (q * D) + 2 * (t * D) + 2 * D := by
    rw [show 4 * j * q + (2 * t + 1) + 1 = 4 * j * q + 2 * t + 2 by omega, Nat.add_mul, Nat.add_mul, Nat.mul_assoc, Nat.mul_assoc 2]
  rw [e1] at h1
  rw [e2] at h2
  have hqN : q * D ≤ N := by
    apply Nat.le_of_lt_succ
    apply Nat.lt_of_mul_lt_mul_left (a := 4 * j)
    rw [Nat.mul_succ, Nat.mul_comm (4 * j) N]
    omega
  obtain ⟨r, hr⟩ : ∃ r, N = q * D + r := ⟨N - q * D, by omega⟩
  have e3 : N * (4 * j) = 4 * j * (q * D) + r * (4 * j) := by rw [hr, Nat.add_mul, Nat.mul_comm (q * D)]
  rw [e3] at h1 h2
  have h1' : 2 * (t * D) < r * (4 * j) := by omega
  have h2' : r * (4 * j) < 2 * (t * D) + 2 * D := by omega
  clear h1 h2 e1 e2 e3 hqN
  have htj : t + 1 ≤ 2 * j := by omega
  have hrD : r < D := by
    have a : (t + 1) * D ≤ 2 * j * D := Nat.mul_le_mul_right _ htj
    rw [Nat.add_mul, Nat.one_mul] at a
    have b : r * (4 * j) < D * (4 * j) := by
      have : D * (4 * j) = 2 * (2 * j * D) := by rw [Nat.mul_comm D, ← Nat.mul_assoc 2, ← Nat.mul_assoc 2]
      omega
    exact Nat.lt_of_mul_lt_mul_right b
  have hr0 : 0 < r := by
    rcases Nat.eq_zero_or_pos r with a | a
    · rw [a, Nat.zero_mul] at h1'; omega
    · exact a
  have hq : N / D = q := by
    rw [hr, Nat.mul_comm q D, Nat.mul_add_div hD, Nat.div_eq_of_lt hrD, Nat.add_zero]
  have hm : N % D = r := by
    rw [hr, Nat.mul_comm q D, Nat.mul_add_mod, Nat.mod_eq_of_lt hrD]
  rw [hq, hm]
  have hc : cmpI (2 * r) D = cmpI (2 * (2 * t + 1)) (4 * j) := by
    by_cases c : 2 * (2 * t + 1) < 4 * j
    · rw [cmpI_lt c]
      apply cmpI_lt
      have a : (t + 1) * D ≤ j * D := Nat.mul_le_mul_right _ (by omega)
      rw [Nat.add_mul, Nat.one_mul] at a
      have b : (2 * r) * (4 * j) < D * (4 * j) := by
        have e1 : D * (4 * j) = 4 * (j * D) := by rw [Nat.mul_comm D, Nat.mul_assoc]
        have e2 : (2 * r) * (4 * j) = 2 * (r * (4 * j)) := Nat.mul_assoc _ _ _
        omega
      exact Nat.lt_of_mul_lt_mul_right b
    · have c' : 4 * j < 2 * (2 * t + 1) := by omega
      rw [cmpI_gt c']
      apply cmpI_gt
      have a : j * D ≤ t * D := Nat.mul_le_mul_right _ (by omega)
      have b : D * (4 * j) < (2 * r) * (4 * j) := by
        have e1 : D * (4 * j) = 4 * (j * D) := by rw [Nat.mul_comm D, Nat.mul_assoc]
        have e2 : (2 * r) * (4 * j) = 2 * (r * (4 * j)) := Nat.mul_assoc _ _ _
        omega
      exact Nat.lt_of_mul_lt_mul_right b
  rw [hc, decide_eq_true (show r ≠ 0 by omega), decide_eq_true (show 2 * t + 1 ≠ 0 by omega)]

end Go.Proofs.Ygcoah
