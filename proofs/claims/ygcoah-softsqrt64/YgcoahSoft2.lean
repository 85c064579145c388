/-
  THE WALKS OF PACKAGE soft, 2: raises, overflow (and exact's overflow, the same text).
-/
import Derived.Test.YgcoahSoft1
namespace Go.Proofs.Ygcoah
open Go.RowKit

theorem cmp_half (r : Nat) : (0 ≤ cmpI r 9223372036854775808 ↔ 9223372036854775808 ≤ r) ∧ (0 < cmpI r 9223372036854775808 ↔ 9223372036854775808 < r) ∧ (cmpI r 9223372036854775808 = 0 ↔ r = 9223372036854775808) := by
  have h1 := cmpI_neg_iff r 9223372036854775808
  have h2 := cmpI_pos_iff r 9223372036854775808
  have h3 := cmpI_zero_iff r 9223372036854775808
  refine ⟨?_, h2, h3⟩
  omega

theorem norm_word' (d : Nat) (h0 : 0 < d) (h : d < 18446744073709551616) : 9223372036854775808 ≤ d * 2 ^ (64 - bl d) ∧ d * 2 ^ (64 - bl d) < 18446744073709551616 := by
  obtain ⟨h1, h2⟩ := bl_bounds d h0
  have hb : bl d ≤ 64 := (bl_le_iff _ _).2 h
  have hp := bl_pos d h0
  have p1 : 2 ^ (bl d - 1) * 2 ^ (64 - bl d) = 9223372036854775808 := by rw [← Nat.pow_add, show bl d - 1 + (64 - bl d) = 63 by omega]
  have p2 : 2 ^ bl d * 2 ^ (64 - bl d) = 18446744073709551616 := by rw [← Nat.pow_add, show bl d + (64 - bl d) = 64 by omega]
  constructor
  · have := Nat.mul_le_mul_right (2 ^ (64 - bl d)) h1
    omega
  · have := Nat.mul_lt_mul_of_pos_right h2 (pow_pos2 (64 - bl d))
    omega

theorem u64_and_one (x : Nat) (h : x < 18446744073709551616) : bits .and .u64 (x : Int) 1 = ((x % 2 : Nat) : Int) := by
  have := u64_and_nat x 1 h (by decide)
  rw [nat_mask1] at this
  exact this

set_option maxRecDepth 100000 in
set_option maxHeartbeats 800000 in
theorem sraises_any (mode : Nat) (neg : Bool) (n r : Nat) (w : World) (hn : n < 18446744073709551616) :
    Calls Oahg.prog 99 #[.int .u8 mode, .bool neg, .int .u64 n, .int .u64 r] w fun e w' => e = .returned (.bool (raiseQ mode neg (decide (n % 2 = 1)) (cmpI r 9223372036854775808) (decide (r ≠ 0)))) ∧ w' = w := by
  obtain ⟨k1, k2, k3⟩ := cmp_half r
  have ha := u64_and_one n hn
  unfold raiseQ
  by_cases m1 : mode = 1
  · subst m1
    rw [if_pos rfl]
    by_cases c : 9223372036854775808 ≤ r
    · rw [decide_eq_true (k1.2 c)]
      have i : (9223372036854775808 : Int) ≤ (r : Int) := by omega
      clear k1 k2 k3 c ha
      go_enter Oahg.func99, Oahg.ntmps99
      go_wp2
      go_ret
      exact ⟨rfl, rfl⟩
    · rw [decide_eq_false (fun h => c (k1.1 h))]
      have i : decide ((9223372036854775808 : Int) ≤ (r : Int)) = false := decide_eq_false (by omega)
      clear k1 k2 k3 c ha
      go_enter Oahg.func99, Oahg.ntmps99
      go_wp2
      go_ret
      exact ⟨rfl, rfl⟩
  rw [if_neg m1]
  have b1 : ((mode : Int) == 1) = false := by rw [beq_eq_false_iff_ne]; omega
  by_cases m2 : mode = 2
  · subst m2
    rw [if_pos rfl]
    clear k1 k2 k3 ha m1 b1
    go_enter Oahg.func99, Oahg.ntmps99
    go_wp2
    go_ret
    exact ⟨rfl, rfl⟩
  rw [if_neg m2]
  have b2 : ((mode : Int) == 2) = false := by rw [beq_eq_false_iff_ne]; omega
  by_cases m3 : mode = 3
  · subst m3
    rw [if_pos rfl]
    clear k1 k2 k3 ha m1 b1 m2 b2
    by_cases c : r = 0
    · subst c
      go_enter Oahg.func99, Oahg.ntmps99
      go_wp2
      go_ret
      exact ⟨rfl, rfl⟩
    · have i : ((r : Int) != 0) = true := by rw [bne_iff_ne]; omega
      rw [decide_eq_true c]
      clear c
      cases neg
      all_goals
        go_enter Oahg.func99, Oahg.ntmps99
        go_wp2
        go_ret
        exact ⟨rfl, rfl⟩
  rw [if_neg m3]
  have b3 : ((mode : Int) == 3) = false := by rw [beq_eq_false_iff_ne]; omega
  by_cases m4 : mode = 4
  · subst m4
    rw [if_pos rfl]
    clear k1 k2 k3 ha m1 b1 m2 b2 m3 b3
    by_cases c : r = 0
    · subst c
      go_enter Oahg.func99, Oahg.ntmps99
      go_wp2
      go_ret
      exact ⟨rfl, rfl⟩
    · have i : ((r : Int) != 0) = true := by rw [bne_iff_ne]; omega
      rw [decide_eq_true c]
      clear c
      cases neg
      all_goals
        go_enter Oahg.func99, Oahg.ntmps99
        go_wp2
        go_ret
        exact ⟨rfl, rfl⟩
  rw [if_neg m4]
  have b4 : ((mode : Int) == 4) = false := by rw [beq_eq_false_iff_ne]; omega
  clear m1 m2 m3 m4
  by_cases c1 : 9223372036854775808 < r
  · rw [decide_eq_true (k2.2 c1), Bool.true_or]
    have i : (9223372036854775808 : Int) < (r : Int) := by omega
    clear k1 k2 k3 c1 ha
    go_enter Oahg.func99, Oahg.ntmps99
    go_wp2
    go_ret
    exact ⟨rfl, rfl⟩
  · rw [decide_eq_false (fun h => c1 (k2.1 h)), Bool.false_or]
    have i : decide ((9223372036854775808 : Int) < (r : Int)) = false := decide_eq_false (by omega)
    by_cases c2 : r = 9223372036854775808
    · rw [decide_eq_true (k3.2 c2), Bool.true_and]
      subst c2
      have hm : n % 2 < 2 := by omega
      generalize n % 2 = p at *
      clear k1 k2 k3 c1 i
      by_cases c3 : p = 1
      · subst c3
        go_enter Oahg.func99, Oahg.ntmps99
        go_wp2
        go_ret
        exact ⟨rfl, rfl⟩
      · have e : p = 0 := by omega
        subst e
        clear c3
        go_enter Oahg.func99, Oahg.ntmps99
        go_wp2
        go_ret
        exact ⟨rfl, rfl⟩
    · rw [decide_eq_false (fun h => c2 (k3.1 h)), Bool.false_and]
      have i2 : ((r : Int) == 9223372036854775808) = false := by rw [beq_eq_false_iff_ne]; omega
      clear k1 k2 k3 c1 c2 ha
      go_enter Oahg.func99, Oahg.ntmps99
      go_wp2
      go_ret
      exact ⟨rfl, rfl⟩

set_option maxHeartbeats 800000 in
theorem soverflow_any (E M mode : Nat) (neg : Bool) (w : World) (h : FOk E M) :
    Calls Oahg.prog 97 #[.agg #[.int .u8 E, .int .u8 M], .int .u8 mode, .bool neg] w fun r w' => (∃ fl : Int, r = .returned (.tuple #[.int .u64 (ovfP E M mode neg), .int .u8 fl])) ∧ Below w.heap.size w w' := by
  by_cases m2 : mode = 2
  · subst m2
    have e : ovfP E M 2 neg = maxS E M neg := rfl
    rw [e]
    clear e
    go_enter Oahg.func97, Oahg.ntmps97
    go_wp2_with (first | (go_at_call 140; refine (maxFinite_any E M _ _ h).mono ?_; rintro e w2 ⟨rfl, hb2⟩) | (go_at_call 54; refine (inf_any E M _ _ h).mono ?_; rintro e w2 ⟨rfl, hb2⟩))
    go_ret2
    exact ⟨⟨_, rfl⟩, ((Below.refl _ _).alloc (Nat.le_refl _) _).trans (hb2.mono (by simp))⟩
  have b2 : ((mode : Int) == 2) = false := by rw [beq_eq_false_iff_ne]; omega
  by_cases m3 : mode = 3
  · subst m3
    cases neg with
    | true =>
      have e : ovfP E M 3 true = maxS E M true := rfl
      rw [e]
      clear e m2 b2
      go_enter Oahg.func97, Oahg.ntmps97
      go_wp2_with (first | (go_at_call 140; refine (maxFinite_any E M _ _ h).mono ?_; rintro e w2 ⟨rfl, hb2⟩) | (go_at_call 54; refine (inf_any E M _ _ h).mono ?_; rintro e w2 ⟨rfl, hb2⟩))
      go_ret2
      exact ⟨⟨_, rfl⟩, ((Below.refl _ _).alloc (Nat.le_refl _) _).trans (hb2.mono (by simp))⟩
    | false =>
      have e : ovfP E M 3 false = infS E M false := rfl
      rw [e]
      clear e m2 b2
      go_enter Oahg.func97, Oahg.ntmps97
      go_wp2_with (first | (go_at_call 140; refine (maxFinite_any E M _ _ h).mono ?_; rintro e w2 ⟨rfl, hb2⟩) | (go_at_call 54; refine (inf_any E M _ _ h).mono ?_; rintro e w2 ⟨rfl, hb2⟩))
      go_ret2
      exact ⟨⟨_, rfl⟩, ((Below.refl _ _).alloc (Nat.le_refl _) _).trans (hb2.mono (by simp))⟩
  have b3 : ((mode : Int) == 3) = false := by rw [beq_eq_false_iff_ne]; omega
  by_cases m4 : mode = 4
  · subst m4
    cases neg with
    | true =>
      have e : ovfP E M 4 true = infS E M true := rfl
      rw [e]
      clear e m2 b2 m3 b3
      go_enter Oahg.func97, Oahg.ntmps97
      go_wp2_with (first | (go_at_call 140; refine (maxFinite_any E M _ _ h).mono ?_; rintro e w2 ⟨rfl, hb2⟩) | (go_at_call 54; refine (inf_any E M _ _ h).mono ?_; rintro e w2 ⟨rfl, hb2⟩))
      go_ret2
      exact ⟨⟨_, rfl⟩, ((Below.refl _ _).alloc (Nat.le_refl _) _).trans (hb2.mono (by simp))⟩
    | false =>
      have e : ovfP E M 4 false = maxS E M false := rfl
      rw [e]
      clear e m2 b2 m3 b3
      go_enter Oahg.func97, Oahg.ntmps97
      go_wp2_with (first | (go_at_call 140; refine (maxFinite_any E M _ _ h).mono ?_; rintro e w2 ⟨rfl, hb2⟩) | (go_at_call 54; refine (inf_any E M _ _ h).mono ?_; rintro e w2 ⟨rfl, hb2⟩))
      go_ret2
      exact ⟨⟨_, rfl⟩, ((Below.refl _ _).alloc (Nat.le_refl _) _).trans (hb2.mono (by simp))⟩
  have b4 : ((mode : Int) == 4) = false := by rw [beq_eq_false_iff_ne]; omega
  have e : ovfP E M mode neg = infS E M neg := by
    unfold ovfP staysB
    simp [m2, m3, m4]
  rw [e]
  clear e m2 m3 m4
  go_enter Oahg.func97, Oahg.ntmps97
  go_wp2_with (first | (go_at_call 140; refine (maxFinite_any E M _ _ h).mono ?_; rintro e w2 ⟨rfl, hb2⟩) | (go_at_call 54; refine (inf_any E M _ _ h).mono ?_; rintro e w2 ⟨rfl, hb2⟩))
  go_ret2
  exact ⟨⟨_, rfl⟩, ((Below.refl _ _).alloc (Nat.le_refl _) _).trans (hb2.mono (by simp))⟩

set_option maxHeartbeats 800000 in
theorem eoverflow_any (E M mode : Nat) (neg : Bool) (w : World) (h : FOk E M) :
    Calls Oahg.prog 109 #[.agg #[.int .u8 E, .int .u8 M], .int .u8 mode, .bool neg] w fun r w' => (∃ fl : Int, r = .returned (.tuple #[.int .u64 (ovfP E M mode neg), .int .u8 fl])) ∧ Below w.heap.size w w' := by
  by_cases m2 : mode = 2
  · subst m2
    have e : ovfP E M 2 neg = maxS E M neg := rfl
    rw [e]
    clear e
    go_enter Oahg.func109, Oahg.ntmps109
    go_wp2_with (first | (go_at_call 140; refine (maxFinite_any E M _ _ h).mono ?_; rintro e w2 ⟨rfl, hb2⟩) | (go_at_call 54; refine (inf_any E M _ _ h).mono ?_; rintro e w2 ⟨rfl, hb2⟩))
    go_ret2
    exact ⟨⟨_, rfl⟩, ((Below.refl _ _).alloc (Nat.le_refl _) _).trans (hb2.mono (by simp))⟩
  have b2 : ((mode : Int) == 2) = false := by rw [beq_eq_false_iff_ne]; omega
  by_cases m3 : mode = 3
  · subst m3
    cases neg with
    | true =>
      have e : ovfP E M 3 true = maxS E M true := rfl
      rw [e]
      clear e m2 b2
      go_enter Oahg.func109, Oahg.ntmps109
      go_wp2_with (first | (go_at_call 140; refine (maxFinite_any E M _ _ h).mono ?_; rintro e w2 ⟨rfl, hb2⟩) | (go_at_call 54; refine (inf_any E M _ _ h).mono ?_; rintro e w2 ⟨rfl, hb2⟩))
      go_ret2
      exact ⟨⟨_, rfl⟩, ((Below.refl _ _).alloc (Nat.le_refl _) _).trans (hb2.mono (by simp))⟩
    | false =>
      have e : ovfP E M 3 false = infS E M false := rfl
      rw [e]
      clear e m2 b2
      go_enter Oahg.func109, Oahg.ntmps109
      go_wp2_with (first | (go_at_call 140; refine (maxFinite_any E M _ _ h).mono ?_; rintro e w2 ⟨rfl, hb2⟩) | (go_at_call 54; refine (inf_any E M _ _ h).mono ?_; rintro e w2 ⟨rfl, hb2⟩))
      go_ret2
      exact ⟨⟨_, rfl⟩, ((Below.refl _ _).alloc (Nat.le_refl _) _).trans (hb2.mono (by simp))⟩
  have b3 : ((mode : Int) == 3) = false := by rw [beq_eq_false_iff_ne]; omega
  by_cases m4 : mode = 4
  · subst m4
    cases neg with
    | true =>
      have e : ovfP E M 4 true = infS E M true := rfl
      rw [e]
      clear e m2 b2 m3 b3
      go_enter Oahg.func109, Oahg.ntmps109
      go_wp2_with (first | (go_at_call 140; refine (maxFinite_any E M _ _ h).mono ?_; rintro e w2 ⟨rfl, hb2⟩) | (go_at_call 54; refine (inf_any E M _ _ h).mono ?_; rintro e w2 ⟨rfl, hb2⟩))
      go_ret2
      exact ⟨⟨_, rfl⟩, ((Below.refl _ _).alloc (Nat.le_refl _) _).trans (hb2.mono (by simp))⟩
    | false =>
      have e : ovfP E M 4 false = maxS E M false := rfl
      rw [e]
      clear e m2 b2 m3 b3
      go_enter Oahg.func109, Oahg.ntmps109
      go_wp2_with (first | (go_at_call 140; refine (maxFinite_any E M _ _ h).mono ?_; rintro e w2 ⟨rfl, hb2⟩) | (go_at_call 54; refine (inf_any E M _ _ h).mono ?_; rintro e w2 ⟨rfl, hb2⟩))
      go_ret2
      exact ⟨⟨_, rfl⟩, ((Below.refl _ _).alloc (Nat.le_refl _) _).trans (hb2.mono (by simp))⟩
  have b4 : ((mode : Int) == 4) = false := by rw [beq_eq_false_iff_ne]; omega
  have e : ovfP E M mode neg = infS E M neg := by
    unfold ovfP staysB
    simp [m2, m3, m4]
  rw [e]
  clear e m2 m3 m4
  go_enter Oahg.func109, Oahg.ntmps109
  go_wp2_with (first | (go_at_call 140; refine (maxFinite_any E M _ _ h).mono ?_; rintro e w2 ⟨rfl, hb2⟩) | (go_at_call 54; refine (inf_any E M _ _ h).mono ?_; rintro e w2 ⟨rfl, hb2⟩))
  go_ret2
  exact ⟨⟨_, rfl⟩, ((Below.refl _ _).alloc (Nat.le_refl _) _).trans (hb2.mono (by simp))⟩

end Go.Proofs.Ygcoah
