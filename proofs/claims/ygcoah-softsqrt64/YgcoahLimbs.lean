/-
  PLAIN: numbers as limbs to the base 2^32. No Go in sight.
-/
namespace Go.Proofs.Ygcoah

/-- The value of the limbs f 0, f 1, .., f (n-1), the least first. -/
def val (f : Nat → Nat) : Nat → Nat
  | 0 => 0
  | n + 1 => val f n + f n * 4294967296 ^ n

theorem base_pos (n : Nat) : 0 < 4294967296 ^ n := Nat.pow_pos (by decide)

theorem val_zeros (f : Nat → Nat) (k n : Nat) (hk : k ≤ n) (h : ∀ i, k ≤ i → i < n → f i = 0) : val f n = val f k := by
  induction n with
  | zero =>
    have : k = 0 := by omega
    subst this; rfl
  | succ n ih =>
    by_cases e : k = n + 1
    · subst e; rfl
    · rw [val, h n (by omega) (by omega), ih (by omega) (fun i h1 h2 => h i h1 (by omega))]; simp

theorem val_congr (f g : Nat → Nat) (n : Nat) (h : ∀ i, i < n → f i = g i) : val f n = val g n := by
  induction n with
  | zero => rfl
  | succ n ih => rw [val, val, ih (fun i hi => h i (by omega)), h n (by omega)]

theorem val_lt (f : Nat → Nat) (n : Nat) (h : ∀ i, i < n → f i < 4294967296) : val f n < 4294967296 ^ n := by
  induction n with
  | zero => simp [val]
  | succ n ih =>
    have h1 := ih (fun i hi => h i (by omega))
    have h2 := h n (by omega)
    rw [val, Nat.pow_succ]
    have h3 : f n * 4294967296 ^ n ≤ 4294967295 * 4294967296 ^ n := Nat.mul_le_mul_right _ (by omega)
    omega

theorem val_ge (f : Nat → Nat) (n k : Nat) (hk : k < n) : f k * 4294967296 ^ k ≤ val f n := by
  induction n with
  | zero => omega
  | succ n ih =>
    rw [val]
    by_cases e : k = n
    · subst e; omega
    · have := ih (by omega); omega

theorem val_ge_top (f : Nat → Nat) (n : Nat) (h0 : 0 < n) (h : f (n - 1) ≠ 0) : 4294967296 ^ (n - 1) ≤ val f n := by
  have h1 := val_ge f n (n - 1) (by omega)
  have h2 : 1 * 4294967296 ^ (n - 1) ≤ f (n - 1) * 4294967296 ^ (n - 1) := Nat.mul_le_mul_right _ (by omega)
  omega

theorem val_lt_of (f g : Nat → Nat) (n k : Nat) (hk : k < n) (hf : ∀ i, i < n → f i < 4294967296) (he : ∀ i, k < i → i < n → f i = g i) (hl : f k < g k) : val f n < val g n := by
  induction n with
  | zero => omega
  | succ n ih =>
    rw [val, val]
    by_cases e : k = n
    · subst e
      have h1 := val_lt f k (fun i hi => hf i (by omega))
      have h2 : (f k + 1) * 4294967296 ^ k ≤ g k * 4294967296 ^ k := Nat.mul_le_mul_right _ (by omega)
      rw [Nat.add_mul] at h2
      omega
    · have h1 := ih (by omega) (fun i hi => hf i (by omega)) (fun i h1 h2 => he i h1 (by omega))
      rw [he n (by omega) (by omega)]
      omega

theorem val_lt_of_len (f g : Nat → Nat) (n m : Nat) (h : n < m) (hf : ∀ i, i < n → f i < 4294967296) (hg : g (m - 1) ≠ 0) : val f n < val g m := by
  have h1 := val_lt f n hf
  have h2 := val_ge_top g m (by omega) hg
  have h3 : 4294967296 ^ n ≤ 4294967296 ^ (m - 1) := Nat.pow_le_pow_right (by decide) (by omega)
  omega

theorem val_pos (f : Nat → Nat) (n : Nat) (h0 : 0 < n) (h : f (n - 1) ≠ 0) : 0 < val f n := by
  have := val_ge_top f n h0 h
  have := base_pos (n - 1)
  omega

/-- A number below 2^(32 L) has at most L limbs, if it is normal. -/
theorem len_le (f : Nat → Nat) (n L : Nat) (h : 0 < n → f (n - 1) ≠ 0) (hx : val f n < 4294967296 ^ L) : n ≤ L := by
  by_cases h0 : 0 < n
  · have h1 := val_ge_top f n h0 (h h0)
    have h2 : (4294967296 : Nat) ^ (n - 1) < 4294967296 ^ L := by omega
    have h3 := (Nat.pow_lt_pow_iff_right (a := 4294967296) (by decide)).1 h2
    omega
  · omega

theorem val_set_ge (c : Nat → Nat) (n k x : Nat) (hk : n ≤ k) : val (fun j => if j = k then x else c j) n = val c n :=
  val_congr _ _ n (fun i hi => by
    show (if i = k then x else c i) = c i
    rw [if_neg (by omega)])

theorem val_set (c : Nat → Nat) (n k x : Nat) (hk : k < n) : val (fun j => if j = k then x else c j) n + c k * 4294967296 ^ k = val c n + x * 4294967296 ^ k := by
  induction n with
  | zero => omega
  | succ n ih =>
    rw [val, val]
    by_cases e : k = n
    · subst e
      rw [val_set_ge c k k x (Nat.le_refl _)]
      simp only [if_pos]
      omega
    · have := ih (by omega)
      have e2 : (if n = k then x else c n) = c n := if_neg (fun h => e h.symm)
      rw [e2]
      omega

/-- -1, 0, 1 as x is less than, equal to or greater than y. -/
def cmpI (x y : Nat) : Int := if x < y then -1 else if x = y then 0 else 1

theorem cmpI_lt {x y : Nat} (h : x < y) : cmpI x y = -1 := by unfold cmpI; rw [if_pos h]
theorem cmpI_eq {x y : Nat} (h : x = y) : cmpI x y = 0 := by unfold cmpI; rw [if_neg (by omega), if_pos h]
theorem cmpI_gt {x y : Nat} (h : y < x) : cmpI x y = 1 := by unfold cmpI; rw [if_neg (by omega), if_neg (by omega)]
theorem cmpI_range (x y : Nat) : -1 ≤ cmpI x y ∧ cmpI x y ≤ 1 := by unfold cmpI; split <;> (try split) <;> omega
theorem cmpI_neg_iff (x y : Nat) : cmpI x y < 0 ↔ x < y := by unfold cmpI; split <;> (try split) <;> omega
theorem cmpI_pos_iff (x y : Nat) : 0 < cmpI x y ↔ y < x := by unfold cmpI; split <;> (try split) <;> omega
theorem cmpI_zero_iff (x y : Nat) : cmpI x y = 0 ↔ x = y := by unfold cmpI; split <;> (try split) <;> omega

/-- The number of significant bits. -/
def bl (x : Nat) : Nat := if x = 0 then 0 else Nat.log2 x + 1

theorem bl_le_iff (x k : Nat) : bl x ≤ k ↔ x < 2 ^ k := by
  unfold bl
  by_cases h : x = 0
  · subst h; simp [Nat.pow_pos]
  · rw [if_neg h, ← Nat.log2_lt h]; omega

theorem lt_bl_iff (x k : Nat) : k < bl x ↔ 2 ^ k ≤ x := by
  have := bl_le_iff x k; omega

theorem bl_eq_of (x k : Nat) (h1 : x < 2 ^ (k + 1)) (h2 : 2 ^ k ≤ x) : bl x = k + 1 := by
  have a := (bl_le_iff x (k + 1)).2 h1
  have b := (lt_bl_iff x k).2 h2
  omega

theorem bl_zero : bl 0 = 0 := rfl
theorem bl_pos (x : Nat) (h : 0 < x) : 0 < bl x := by
  unfold bl; rw [if_neg (by omega)]; omega

theorem bl_bounds (x : Nat) (h : 0 < x) : 2 ^ (bl x - 1) ≤ x ∧ x < 2 ^ bl x := by
  refine ⟨?_, (bl_le_iff x _).1 (Nat.le_refl _)⟩
  exact (lt_bl_iff x _).1 (by have := bl_pos x h; omega)

theorem bl_shift (x y k : Nat) (hy : 0 < y) (hx : x < 2 ^ k) : bl (x + y * 2 ^ k) = k + bl y := by
  obtain ⟨h1, h2⟩ := bl_bounds y hy
  have hp := bl_pos y hy
  have e : k + bl y = (k + (bl y - 1)) + 1 := by omega
  rw [e]
  refine bl_eq_of _ _ ?_ ?_
  · rw [show k + (bl y - 1) + 1 = k + bl y by omega, Nat.pow_add]
    have : (y + 1) * 2 ^ k ≤ 2 ^ bl y * 2 ^ k := Nat.mul_le_mul_right _ (by omega)
    rw [Nat.add_mul] at this
    rw [Nat.mul_comm (2 ^ k)]
    omega
  · rw [Nat.pow_add, Nat.mul_comm]
    have : 2 ^ (bl y - 1) * 2 ^ k ≤ y * 2 ^ k := Nat.mul_le_mul_right _ h1
    omega

theorem base_pow (n : Nat) : (4294967296 : Nat) ^ n = 2 ^ (32 * n) := by
  rw [Nat.pow_mul]

end Go.Proofs.Ygcoah
