/-
  PLAIN: one step of long division. No Go in sight.
-/
import Derived.Test.YgcoahKnuth
namespace Go.Proofs.Ygcoah

/-- The limbs of c from o on. -/
def part (c : Nat → Nat) (o : Nat) : Nat → Nat := fun i => c (o + i)

theorem val_split (c : Nat → Nat) (j m : Nat) : val c (j + m) = val c j + val (part c j) m * 4294967296 ^ j := by
  induction m with
  | zero => simp [val]
  | succ m ih =>
    rw [← Nat.add_assoc, val, ih, val, Nat.add_mul, Nat.mul_assoc, ← Nat.pow_add, Nat.add_comm m j]
    simp [part]
    omega

theorem part_lim {c : Nat → Nat} {N j m : Nat} (h : ∀ i, i < N → c i < 4294967296) (hj : j + m ≤ N) : ∀ i, i < m → part c j i < 4294967296 :=
  fun i hi => h (j + i) (by omega)

/-- U by D, of which the top limbs are U3 and D2. -/
theorem gq_near {U D u3h u0 d1 d0 P ul dl : Nat} (hU : U = (u3h * 4294967296 + u0) * P + ul) (hul : ul < P) (hD : D = (d1 * 4294967296 + d0) * P + dl) (hdl : dl < P) (hd1 : 2147483648 ≤ d1) (hlt : U < D * 4294967296) :
    U / D ≤ gq u3h u0 d1 d0 ∧ gq u3h u0 d1 d0 ≤ U / D + 1 := by
  have hP : 0 < P := by omega
  have hDpos : 0 < D := by
    have : 0 < (d1 * 4294967296 + d0) * P := Nat.mul_pos (by omega) hP
    omega
  constructor
  · have h1 : U / D < 4294967296 := by rw [Nat.div_lt_iff_lt_mul hDpos, Nat.mul_comm]; exact hlt
    have h2 : U / D ≤ (u3h * 4294967296 + u0) / (d1 * 4294967296 + d0) := by
      rw [Nat.le_div_iff_mul_le (by omega)]
      have h3 : U / D * D ≤ U := Nat.div_mul_le_self U D
      have h4 : U / D * ((d1 * 4294967296 + d0) * P) ≤ U / D * D := Nat.mul_le_mul_left _ (by omega)
      have h5 : U / D * (d1 * 4294967296 + d0) * P < (u3h * 4294967296 + u0 + 1) * P := by
        rw [Nat.mul_assoc, Nat.add_mul _ 1]; omega
      exact Nat.le_of_lt_succ (Nat.lt_of_mul_lt_mul_right h5)
    exact Nat.le_min.2 ⟨Nat.le_of_lt_succ h1, h2⟩
  · have h0 : gq u3h u0 d1 d0 ≤ 4294967295 := Nat.min_le_left _ _
    have h1 : gq u3h u0 d1 d0 * (d1 * 4294967296 + d0) ≤ u3h * 4294967296 + u0 := by
      have : gq u3h u0 d1 d0 ≤ (u3h * 4294967296 + u0) / (d1 * 4294967296 + d0) := Nat.min_le_right _ _
      exact Nat.le_trans (Nat.mul_le_mul_right (d1 * 4294967296 + d0) this) (Nat.div_mul_le_self (u3h * 4294967296 + u0) (d1 * 4294967296 + d0))
    generalize gq u3h u0 d1 d0 = g at *
    have h2 := Nat.mul_le_mul_right P h1
    have h3 : g * dl ≤ 4294967295 * P := Nat.mul_le_mul h0 (by omega)
    have h4 : g * D ≤ U + 4294967295 * P := by
      rw [hD, Nat.mul_add, ← Nat.mul_assoc]; omega
    have h5 : 4294967296 * P ≤ D := by
      have := Nat.mul_le_mul_right P (show 4294967296 ≤ d1 * 4294967296 + d0 by omega)
      omega
    by_cases hg : g = 0
    · rw [hg]; exact Nat.zero_le _
    · have h6 : (g - 1) * D ≤ U := by
        have : g * D = (g - 1) * D + D := by
          obtain ⟨k, rfl⟩ : ∃ k, g = k + 1 := ⟨g - 1, by omega⟩
          rw [Nat.add_mul, Nat.add_sub_cancel]; omega
        omega
      exact Nat.sub_le_iff_le_add.1 ((Nat.le_div_iff_mul_le hDpos).2 h6)

theorem val_zero_above {c : Nat → Nat} {N k : Nat} (h : val c N < 4294967296 ^ k) : ∀ i, k ≤ i → i < N → c i = 0 := by
  intro i h1 h2
  have h3 := val_ge c N i h2
  have h4 : 4294967296 ^ k ≤ 4294967296 ^ i := Nat.pow_le_pow_right (by decide) h1
  false_or_by_contra
  have h5 := Nat.mul_le_mul_right (4294967296 ^ i) (show 1 ≤ c i by omega)
  omega

/-- What a step of long division works on: the n + 1 limbs from j on. -/
theorem step_U {c : Nat → Nat} {N j n D : Nat} (hN : j + n + 1 ≤ N) (h : val c N < D * 4294967296 ^ (j + 1)) (hD : D < 4294967296 ^ n) :
    val c N = val c j + val (part c j) (n + 1) * 4294967296 ^ j ∧ val (part c j) (n + 1) < D * 4294967296 := by
  have h1 : val c N < 4294967296 ^ (j + n + 1) := by
    have := Nat.mul_le_mul_right (4294967296 ^ (j + 1)) (Nat.le_of_lt hD)
    rw [← Nat.pow_add, show n + (j + 1) = j + n + 1 by omega] at this
    omega
  have h2 := val_zeros c (j + n + 1) N hN (val_zero_above h1)
  have h3 := val_split c j (n + 1)
  rw [← Nat.add_assoc] at h3
  refine ⟨by rw [h2, h3], ?_⟩
  have h4 : val (part c j) (n + 1) * 4294967296 ^ j < D * 4294967296 * 4294967296 ^ j := by
    have e : D * 4294967296 * 4294967296 ^ j = D * 4294967296 ^ (j + 1) := by rw [Nat.mul_assoc, Nat.mul_comm 4294967296, ← Nat.pow_succ]
    rw [e]; omega
  exact Nat.lt_of_mul_lt_mul_right h4

theorem val_top (X : Nat → Nat) (n : Nat) : val X (n + 1) = val X n + X n * 4294967296 ^ n := rfl

/-- The digit that is guessed: right, or one too great; the top limb is not above the divisor's. -/
theorem step_guess {X d : Nat → Nat} {n : Nat} (hn : 2 ≤ n) (hX : ∀ i, i < n + 1 → X i < 4294967296) (hd : ∀ i, i < n → d i < 4294967296) (hd1 : 2147483648 ≤ d (n - 1)) (hlt : val X (n + 1) < val d n * 4294967296) :
    X n ≤ d (n - 1) ∧ val X (n + 1) / val d n ≤ gq (X (n - 1) + X n * 4294967296) (X (n - 2)) (d (n - 1)) (d (n - 2)) ∧ gq (X (n - 1) + X n * 4294967296) (X (n - 2)) (d (n - 1)) (d (n - 2)) ≤ val X (n + 1) / val d n + 1 := by
  obtain ⟨m, rfl⟩ : ∃ m, n = m + 2 := ⟨n - 2, by omega⟩
  simp only [show m + 2 - 1 = m + 1 by omega, show m + 2 - 2 = m by omega] at *
  have e1 : val X (m + 2 + 1) = ((X (m + 1) + X (m + 2) * 4294967296) * 4294967296 + X m) * 4294967296 ^ m + val X m := by
    rw [val_top, val_top, val_top, show m + 1 + 1 = m + 2 by rfl]
    have p1 : (4294967296 : Nat) ^ (m + 1) = 4294967296 * 4294967296 ^ m := by rw [Nat.pow_succ, Nat.mul_comm]
    have p2 : (4294967296 : Nat) ^ (m + 2) = 4294967296 * 4294967296 * 4294967296 ^ m := by rw [show m + 2 = m + 1 + 1 by rfl, Nat.pow_succ, p1, Nat.mul_comm, Nat.mul_assoc]
    rw [p1, p2]
    simp only [Nat.add_mul, Nat.mul_assoc]
    omega
  have e2 : val d (m + 2) = (d (m + 1) * 4294967296 + d m) * 4294967296 ^ m + val d m := by
    rw [val_top, val_top]
    have p1 : (4294967296 : Nat) ^ (m + 1) = 4294967296 * 4294967296 ^ m := by rw [Nat.pow_succ, Nat.mul_comm]
    rw [p1]
    simp only [Nat.add_mul, Nat.mul_assoc]
    omega
  have l1 := val_lt X m (fun i hi => hX i (by omega))
  have l2 := val_lt d m (fun i hi => hd i (by omega))
  refine ⟨?_, gq_near e1 l1 e2 l2 hd1 hlt⟩
  have h1 : val X (m + 2 + 1) = val X (m + 2) + X (m + 2) * 4294967296 ^ (m + 2) := rfl
  have h2 : val d (m + 2) = val d (m + 1) + d (m + 1) * 4294967296 ^ (m + 1) := rfl
  have h3 := val_lt d (m + 1) (fun i hi => hd i (by omega))
  have h4 : X (m + 2) * 4294967296 ^ (m + 2) < (d (m + 1) + 1) * 4294967296 ^ (m + 2) := by
    have h5 : val d (m + 2) * 4294967296 ≤ (d (m + 1) + 1) * 4294967296 ^ (m + 1) * 4294967296 := Nat.mul_le_mul_right _ (by rw [Nat.add_mul]; omega)
    rw [Nat.mul_assoc, ← Nat.pow_succ] at h5
    have e : (4294967296 : Nat) ^ (m + 1).succ = 4294967296 ^ (m + 2) := rfl
    rw [e] at h5
    omega
  have := Nat.lt_of_mul_lt_mul_right h4
  omega

/-- The digit was right: nothing was borrowed. -/
theorem took_right {U D q x br K : Nat} (h : x + q * D = U + br) (hbr : br = 0 ∨ br = K) (hx : x < K) (hq : q = U / D) : br = 0 ∧ x = U % D := by
  have h1 := Nat.div_add_mod U D
  rw [← hq, Nat.mul_comm] at h1
  omega

/-- It was one too great: it was borrowed; adding the divisor once mends it. -/
theorem took_more {U D q x br K : Nat} (h : x + q * D = U + br) (hbr : br = 0 ∨ br = K) (hD : 0 < D) (hq : q = U / D + 1) : br = K ∧ x + D = U % D + K := by
  have h1 := Nat.div_add_mod U D
  have h2 := Nat.mod_lt U hD
  have h3 : q * D = D * (U / D) + D := by rw [hq, Nat.add_mul, Nat.mul_comm]; omega
  omega

theorem put_right {x y K D r z : Nat} (h : x + y * K = z + D) (h1 : z + D = r + K) (hr : r < K) (hx : x < K) : x = r := by
  match y with
  | 0 => omega
  | 1 => omega
  | y + 2 =>
    rw [Nat.add_mul] at h
    omega

/-- The step's end. -/
theorem step_end {c c' e : Nat → Nat} {N L j n D A : Nat} (hN : j + n + 1 ≤ N) (hj : j < L) (hA : A = val e L * D + val c N) (h : val c N < D * 4294967296 ^ (j + 1)) (hDn : D < 4294967296 ^ n) (hD : 0 < D)
    (hc : ∀ i, i < N → c i < 4294967296) (hs : ∀ i, i < j ∨ j + n + 1 ≤ i → c' i = c i) (hx : val (part c' j) (n + 1) = val (part c j) (n + 1) % D) (he : e j = 0) :
    A = val (fun i => if i = j then val (part c j) (n + 1) / D else e i) L * D + val c' N ∧ val c' N < D * 4294967296 ^ j := by
  obtain ⟨h1, _⟩ := step_U hN h hDn
  have hz : ∀ i, j + n + 1 ≤ i → i < N → c i = 0 := by
    refine val_zero_above ?_
    have := Nat.mul_le_mul_right (4294967296 ^ (j + 1)) (Nat.le_of_lt hDn)
    rw [← Nat.pow_add, show n + (j + 1) = j + n + 1 by omega] at this
    omega
  have h2 : val c' N = val c j + val (part c j) (n + 1) % D * 4294967296 ^ j := by
    rw [val_zeros c' (j + n + 1) N hN (fun i a b => by rw [hs i (Or.inr a)]; exact hz i a b)]
    have h3 := val_split c' j (n + 1)
    rw [← Nat.add_assoc] at h3
    rw [h3, hx, val_congr c' c j (fun i hi => hs i (Or.inl hi))]
  have h4 := val_set e L j (val (part c j) (n + 1) / D) hj
  rw [he] at h4
  have h5 : val (fun i => if i = j then val (part c j) (n + 1) / D else e i) L = val e L + val (part c j) (n + 1) / D * 4294967296 ^ j := by omega
  generalize val (part c j) (n + 1) = U at *
  constructor
  · rw [h5, h2, hA, h1, Nat.add_mul]
    have h6 : U * 4294967296 ^ j = U / D * 4294967296 ^ j * D + U % D * 4294967296 ^ j := by
      rw [Nat.mul_assoc, Nat.mul_comm (4294967296 ^ j) D, ← Nat.mul_assoc, ← Nat.add_mul]
      congr 1
      have := Nat.div_add_mod U D
      rw [Nat.mul_comm] at this
      exact this.symm
    omega
  · rw [h2]
    have h7 := val_lt c j (fun i hi => hc i (by omega))
    have h8 := Nat.mod_lt U hD
    have h9 := Nat.mul_le_mul_right (4294967296 ^ j) (show U % D + 1 ≤ D by omega)
    rw [Nat.add_mul] at h9
    omega

end Go.Proofs.Ygcoah
