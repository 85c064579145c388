/-
  THE WALKS OF PACKAGE wide, 1: Mul64, Cmp, Shl, Shr.
-/
import Derived.Test.YgcoahWidth
import Derived.Test.YgcoahW128
namespace Go.Proofs.Ygcoah
open Go.RowKit

theorem and_mask32 (t : Nat) (ht : t < 18446744073709551616) : bits .and .u64 (t : Int) 4294967295 = ((t % 4294967296 : Nat) : Int) := by
  have h := u64_and_nat t 4294967295 ht (by decide)
  rw [nat_mask32] at h
  exact h

theorem prod_bd (a b : Nat) (ha : a < 4294967296) (hb : b < 4294967296) : a * b ≤ 18446744065119617025 := by
  have := Nat.mul_le_mul (show a ≤ 4294967295 by omega) (show b ≤ 4294967295 by omega)
  omega
theorem prod_ibd (a b : Nat) (ha : a < 4294967296) (hb : b < 4294967296) : 0 ≤ (a : Int) * (b : Int) ∧ (a : Int) * (b : Int) ≤ 18446744065119617025 := by
  have := prod_bd a b ha hb
  rw [← Int.natCast_mul]; omega

set_option maxHeartbeats 400000 in
theorem mul64_any (a b : Nat) (w : World) (ha : a < 18446744073709551616) (hb : b < 18446744073709551616) :
    Calls Oahg.prog 84 #[.int .u64 a, .int .u64 b] w fun r w' => r = .returned (.agg #[.int .u64 (hiW (a * b)), .int .u64 (loW (a * b))]) ∧ Below w.heap.size w w' := by
  obtain ⟨a1, ea1⟩ : ∃ a1, a1 = a / 4294967296 := ⟨_, rfl⟩
  obtain ⟨a0, ea0⟩ : ∃ a0, a0 = a % 4294967296 := ⟨_, rfl⟩
  obtain ⟨b1, eb1⟩ : ∃ b1, b1 = b / 4294967296 := ⟨_, rfl⟩
  obtain ⟨b0, eb0⟩ : ∃ b0, b0 = b % 4294967296 := ⟨_, rfl⟩
  have qa1 : (a : Int) / 4294967296 = (a1 : Int) := by omega
  have qb1 : (b : Int) / 4294967296 = (b1 : Int) := by omega
  have qa0 := and_mask32 a ha
  have qb0 := and_mask32 b hb
  rw [← ea0] at qa0
  rw [← eb0] at qb0
  obtain ⟨p1, p2⟩ := prod_ibd a1 b0 (by omega) (by omega)
  obtain ⟨p3, p4⟩ := prod_ibd a0 b0 (by omega) (by omega)
  obtain ⟨p5, p6⟩ := prod_ibd a0 b1 (by omega) (by omega)
  obtain ⟨p7, p8⟩ := prod_ibd a1 b1 (by omega) (by omega)
  obtain ⟨mid, em⟩ : ∃ mid, mid = a1 * b0 + a0 * b0 / 4294967296 := ⟨_, rfl⟩
  have hmid : mid < 18446744073709551616 := by
    have h1 := prod_bd a1 b0 (by omega) (by omega)
    have h2 := prod_bd a0 b0 (by omega) (by omega)
    omega
  have qm : (a1 : Int) * (b0 : Int) + (a0 : Int) * (b0 : Int) / 4294967296 = (mid : Int) := by
    rw [em, Int.natCast_add, Int.natCast_mul, Int.natCast_ediv, Int.natCast_mul]; rfl
  have qmm := and_mask32 mid hmid
  obtain ⟨m0, em0⟩ : ∃ m0, m0 = mid % 4294967296 := ⟨_, rfl⟩
  rw [← em0] at qmm
  obtain ⟨mid2, em2⟩ : ∃ mid2, mid2 = a0 * b1 + m0 := ⟨_, rfl⟩
  have qm2 : (a0 : Int) * (b1 : Int) + (m0 : Int) = (mid2 : Int) := by
    rw [em2, Int.natCast_add, Int.natCast_mul]
  have hmid2 : mid2 < 18446744073709551616 := by
    have h1 := prod_bd a0 b1 (by omega) (by omega)
    omega
  have HH : Hid (hiW (a * b) = a1 * b1 + mid / 4294967296 + mid2 / 4294967296) := by
    unfold Hid hiW
    rw [ea1, eb1]
    exact mul_words a b mid mid2 (by rw [em, ea1, eb0, ea0]) (by rw [em2, em0, ea0, eb1])
  have HL : Hid (a * b < 340282366920938463463374607431768211456) := by
    have := Nat.mul_le_mul (show a ≤ 18446744073709551615 by omega) (show b ≤ 18446744073709551615 by omega)
    unfold Hid; omega
  have HX : Hid ((a1 : Int) * (b1 : Int) + (mid : Int) / 4294967296 + (mid2 : Int) / 4294967296 = (hiW (a * b) : Int)) := by
    unfold Hid
    rw [HH.out, Int.natCast_add, Int.natCast_add, Int.natCast_mul, Int.natCast_ediv, Int.natCast_ediv]; rfl
  have hXb : hiW (a * b) < 18446744073709551616 := hiW_lt HL.out
  have q9 : (a1 : Int) * (b1 : Int) + (mid : Int) / 4294967296 ≤ 18446744073709551615 := by
    have h1 := HX.out
    have h2 : 0 ≤ (mid2 : Int) / 4294967296 := by omega
    omega
  have q10 : (a1 : Int) * (b1 : Int) + (mid : Int) / 4294967296 + (mid2 : Int) / 4294967296 = (hiW (a * b) : Int) := HX.out
  have q11 : IntKind.u64.wrap ((a : Int) * (b : Int)) = (loW (a * b) : Int) := by
    rw [IntKind.wrap_u64, ← Int.natCast_mul]; unfold loW; omega
  clear ea1 ea0 eb1 eb0 em em0 em2
  go_enter Oahg.func84, Oahg.ntmps84
  go_wp2
  refine bodyPost_ret (v := .agg #[.int .u64 (hiW (a * b)), .int .u64 (loW (a * b))]) (by simp [results, Oahg.results84, go_sem]) rfl ⟨rfl, (Below.refl _ _).alloc (Nat.le_refl _) _⟩

theorem cmp_words (a b : Nat) (h : hiW a < hiW b ∨ hiW a = hiW b ∧ loW a < loW b) : a < b := by
  have h1 := hi_lo a
  have h2 := hi_lo b
  have h3 := loW_lt a
  have h4 := loW_lt b
  omega

set_option maxHeartbeats 400000 in
theorem wcmp_any (a b : Nat) (w : World) :
    Calls Oahg.prog 96 #[.agg #[.int .u64 (hiW a), .int .u64 (loW a)], .agg #[.int .u64 (hiW b), .int .u64 (loW b)]] w fun r w' => r = .returned (.int .i8 (cmpI a b)) ∧ Below w.heap.size w w' := by
  have h1 := hi_lo a
  have h2 := hi_lo b
  have h3 := loW_lt a
  have h4 := loW_lt b
  by_cases c1 : hiW a < hiW b
  · have e : cmpI a b = -1 := cmpI_lt (cmp_words a b (Or.inl c1))
    rw [e]
    clear h1 h2 h3 h4 e
    go_enter Oahg.func96, Oahg.ntmps96
    go_wp2
    go_ret
    exact ⟨rfl, ((Below.refl _ _).alloc (Nat.le_refl _) _).alloc (by simp) _⟩
  · by_cases c2 : hiW a = hiW b
    · by_cases c3 : loW a < loW b
      · have e : cmpI a b = -1 := cmpI_lt (cmp_words a b (Or.inr ⟨c2, c3⟩))
        rw [e, c2]
        clear h1 h2 h3 h4 e c2 c1
        go_enter Oahg.func96, Oahg.ntmps96
        go_wp2
        go_ret
        exact ⟨rfl, ((Below.refl _ _).alloc (Nat.le_refl _) _).alloc (by simp) _⟩
      · by_cases c4 : loW a = loW b
        · have e : cmpI a b = 0 := cmpI_eq (by omega)
          rw [e, c2, c4]
          clear h1 h2 h3 h4 e c2 c1 c3 c4
          go_enter Oahg.func96, Oahg.ntmps96
          go_wp2
          go_ret
          exact ⟨rfl, ((Below.refl _ _).alloc (Nat.le_refl _) _).alloc (by simp) _⟩
        · have e : cmpI a b = 1 := cmpI_gt (by omega)
          have b1 : ((loW a : Int) == (loW b : Int)) = false := by rw [beq_eq_false_iff_ne]; omega
          rw [e, c2]
          clear h1 h2 h3 h4 e c2 c1 c4
          go_enter Oahg.func96, Oahg.ntmps96
          go_wp2
          go_ret
          exact ⟨rfl, ((Below.refl _ _).alloc (Nat.le_refl _) _).alloc (by simp) _⟩
    · have e : cmpI a b = 1 := cmpI_gt (by omega)
      have b1 : ((hiW a : Int) == (hiW b : Int)) = false := by rw [beq_eq_false_iff_ne]; omega
      rw [e]
      clear h1 h2 h3 h4 e c2
      go_enter Oahg.func96, Oahg.ntmps96
      go_wp2
      go_ret
      exact ⟨rfl, ((Below.refl _ _).alloc (Nat.le_refl _) _).alloc (by simp) _⟩
end Go.Proofs.Ygcoah
