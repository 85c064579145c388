/-
  THE WALKS OF PACKAGE wide, 2: Shl, Shr, Add.
-/
import Derived.Test.YgcoahWide1
namespace Go.Proofs.Ygcoah
open Go.RowKit

theorem cast_div_pow (x k : Nat) : (x : Int) / 2 ^ k = ((x / 2 ^ k : Nat) : Int) := by rw [pow_cast, ← Int.natCast_ediv]
theorem cast_mul_pow (x k : Nat) : (x : Int) * 2 ^ k = ((x * 2 ^ k : Nat) : Int) := by rw [pow_cast, ← Int.natCast_mul]

set_option maxHeartbeats 400000 in
theorem wshl_any (a k : Nat) (w : World) (hk : k < 256) (h : a * 2 ^ k < 340282366920938463463374607431768211456) :
    Calls Oahg.prog 95 #[.agg #[.int .u64 (hiW a), .int .u64 (loW a)], .int .u8 k] w fun r w' => r = .returned (.agg #[.int .u64 (hiW (a * 2 ^ k)), .int .u64 (loW (a * 2 ^ k))]) ∧ Below w.heap.size w w' := by
  have hp := pow_pos2 k
  have ha : a < 340282366920938463463374607431768211456 := Nat.lt_of_le_of_lt (Nat.le_mul_of_pos_right _ hp) h
  have hh := hiW_lt ha
  have hl := loW_lt a
  by_cases c : k < 64
  · have hW := shl_words (hiW a) (loW a) k (by omega)
    rw [hi_lo] at hW
    have hlow := low_lt (loW a) k (by omega) hl
    obtain ⟨s1, s2⟩ := W_split hW (Nat.mod_lt _ (by decide))
    have hb : hiW a * 2 ^ k + loW a / 2 ^ (64 - k) < 18446744073709551616 := by
      rw [← s1]; exact hiW_lt h
    have hbX : hiW a * 2 ^ k < 18446744073709551616 := Nat.lt_of_le_of_lt (Nat.le_add_right _ _) hb
    have hbY : loW a / 2 ^ (64 - k) < 18446744073709551616 := Nat.lt_of_le_of_lt (Nat.le_add_left _ _) hb
    have e1 : IntKind.u64.wrap ((hiW a : Int) * 2 ^ k) = ((hiW a * 2 ^ k : Nat) : Int) := by
      rw [cast_mul_pow]; exact wrapN _ hbX
    have e2 : (loW a : Int) / 2 ^ (64 - k) = ((loW a / 2 ^ (64 - k) : Nat) : Int) := cast_div_pow _ _
    have e3 : bits .or .u64 ((hiW a * 2 ^ k : Nat) : Int) ((loW a / 2 ^ (64 - k) : Nat) : Int) = (hiW (a * 2 ^ k) : Int) := by
      rw [u64_or_nat _ _ hbX hbY, nat_join k _ _ (Nat.mul_mod_left _ _) hlow, s1]
    have e4 : IntKind.u64.wrap ((loW a : Int) * 2 ^ k) = (loW (a * 2 ^ k) : Int) := by
      rw [cast_mul_pow, IntKind.wrap_u64, s2]; omega
    generalize hiW (a * 2 ^ k) = H at *
    generalize loW (a * 2 ^ k) = L at *
    generalize hiW a * 2 ^ k = X at *
    generalize loW a / 2 ^ (64 - k) = Y at *
    clear s1 s2 hW hb hlow h ha hh hl hp hbX hbY
    go_enter Oahg.func95, Oahg.ntmps95
    go_wp2
    exact bodyPost_ret (v := .agg #[.int .u64 H, .int .u64 L]) (by simp [results, Oahg.results95, go_sem]) rfl ⟨rfl, ((Below.refl _ _).alloc (Nat.le_refl _) _).alloc (by simp) _⟩
  · have hh0 : hiW a = 0 := by
      false_or_by_contra
      have h1 := hi_lo a
      have h2 : 18446744073709551616 * 18446744073709551616 ≤ a * 2 ^ k := by
        refine Nat.mul_le_mul (by omega) ?_
        exact Nat.pow_le_pow_right (n := 2) (i := 64) (by decide) (by omega)
      omega
    obtain ⟨j, rfl⟩ : ∃ j, k = 64 + j := ⟨k - 64, by omega⟩
    have ea : a * 2 ^ (64 + j) = loW a * 2 ^ j * 18446744073709551616 + 0 := by
      have h1 := hi_lo a
      rw [hh0] at h1
      have h2 : a = loW a := by omega
      have h3 : a * 2 ^ (64 + j) = a * 2 ^ j * 18446744073709551616 := by
        have p64 : (2 : Nat) ^ 64 = 18446744073709551616 := by decide
        rw [Nat.pow_add, p64, Nat.mul_comm 18446744073709551616, Nat.mul_assoc]
      rw [h3, ← h2, Nat.add_zero]
    obtain ⟨s1, s2⟩ := W_split ea (by decide)
    have hb : loW a * 2 ^ j < 18446744073709551616 := by rw [← s1]; exact hiW_lt h
    have e1 : IntKind.u64.wrap ((loW a : Int) * 2 ^ j) = (hiW (a * 2 ^ (64 + j)) : Int) := by
      rw [cast_mul_pow, s1]; exact wrapN _ hb
    have e5 : (64 + (j : Int)) - 64 = (j : Int) := by omega
    have e6 : ((64 + j : Nat) : Int) = 64 + (j : Int) := by omega
    have hj : j < 192 := by omega
    by_cases cj : j < 64
    · rw [s2, hh0]
      rw [e6]
      generalize hiW (a * 2 ^ (64 + j)) = H at *
      clear s1 s2 ea hb h ha hh hl hp e6 c hk hh0
      go_enter Oahg.func95, Oahg.ntmps95
      go_wp2
      exact bodyPost_ret (v := .agg #[.int .u64 H, .int .u64 0]) (by simp [results, Oahg.results95, go_sem]) rfl ⟨rfl, ((Below.refl _ _).alloc (Nat.le_refl _) _).alloc (by simp) _⟩
    · have hl0 : loW a = 0 := by
        false_or_by_contra
        have h2 : 1 * 18446744073709551616 ≤ loW a * 2 ^ j := Nat.mul_le_mul (by omega) (Nat.pow_le_pow_right (n := 2) (i := 64) (by decide) (by omega))
        omega
      have hH : hiW (a * 2 ^ (64 + j)) = 0 := by rw [s1, hl0]; simp
      rw [s2, hh0, hl0, hH]
      rw [e6]
      clear s1 s2 ea hb h ha hh hl hp e6 c hk hh0 e1 hl0 hH
      go_enter Oahg.func95, Oahg.ntmps95
      go_wp2
      exact bodyPost_ret (v := .agg #[.int .u64 0, .int .u64 0]) (by simp [results, Oahg.results95, go_sem]) rfl ⟨rfl, ((Below.refl _ _).alloc (Nat.le_refl _) _).alloc (by simp) _⟩

set_option maxHeartbeats 400000 in
theorem wshr_any (a k : Nat) (w : World) (hk : k < 256) (h : a < 340282366920938463463374607431768211456) :
    Calls Oahg.prog 56 #[.agg #[.int .u64 (hiW a), .int .u64 (loW a)], .int .u8 k] w fun r w' => r = .returned (.agg #[.int .u64 (hiW (a / 2 ^ k)), .int .u64 (loW (a / 2 ^ k))]) ∧ Below w.heap.size w w' := by
  have hh := hiW_lt h
  have hl := loW_lt a
  by_cases c : k < 64
  · obtain ⟨hW, hb, hlow⟩ := shr_words (hiW a) (loW a) k (by omega) hl
    rw [hi_lo] at hW
    obtain ⟨s1, s2⟩ := W_split hW hb
    have hbX : loW a / 2 ^ k < 18446744073709551616 := Nat.lt_of_le_of_lt (Nat.le_add_right _ _) hb
    have hbY : hiW a % 2 ^ k * 2 ^ (64 - k) < 18446744073709551616 := Nat.lt_of_le_of_lt (Nat.le_add_left _ _) hb
    have e1 : (hiW a : Int) / 2 ^ k = (hiW (a / 2 ^ k) : Int) := by rw [s1]; exact cast_div_pow _ _
    have e2 : (loW a : Int) / 2 ^ k = ((loW a / 2 ^ k : Nat) : Int) := cast_div_pow _ _
    have e3 : IntKind.u64.wrap ((hiW a : Int) * 2 ^ (64 - k)) = ((hiW a % 2 ^ k * 2 ^ (64 - k) : Nat) : Int) := by
      rw [cast_mul_pow, IntKind.wrap_u64]
      have h1 : hiW a * 2 ^ (64 - k) % 18446744073709551616 = hiW a % 2 ^ k * 2 ^ (64 - k) := by
        conv => lhs; rw [W_pow k (by omega), Nat.mul_comm (2 ^ (64 - k)) (2 ^ k)]
        rw [Nat.mul_mod_mul_right]
      rw [← h1]; omega
    have e4 : bits .or .u64 ((loW a / 2 ^ k : Nat) : Int) ((hiW a % 2 ^ k * 2 ^ (64 - k) : Nat) : Int) = (loW (a / 2 ^ k) : Int) := by
      rw [u64_or_nat _ _ hbX hbY, Nat.or_comm, nat_join (64 - k) _ _ (Nat.mul_mod_left _ _) hlow, Nat.add_comm, s2]
    generalize hiW (a / 2 ^ k) = H at *
    generalize loW (a / 2 ^ k) = L at *
    generalize loW a / 2 ^ k = X at *
    generalize hiW a % 2 ^ k * 2 ^ (64 - k) = Y at *
    clear s1 s2 hW hb hlow h hh hl hbX hbY
    go_enter Oahg.func56, Oahg.ntmps56
    go_wp2
    exact bodyPost_ret (v := .agg #[.int .u64 H, .int .u64 L]) (by simp [results, Oahg.results56, go_sem]) rfl ⟨rfl, ((Below.refl _ _).alloc (Nat.le_refl _) _).alloc (by simp) _⟩
  · obtain ⟨j, rfl⟩ : ∃ j, k = 64 + j := ⟨k - 64, by omega⟩
    have ea : a / 2 ^ (64 + j) = 0 * 18446744073709551616 + hiW a / 2 ^ j := by
      rw [Nat.pow_add, ← Nat.div_div_eq_div_mul]
      show a / 18446744073709551616 / 2 ^ j = _
      unfold hiW; omega
    obtain ⟨s1, s2⟩ := W_split ea (Nat.lt_of_le_of_lt (Nat.div_le_self _ _) hh)
    have e1 : (hiW a : Int) / 2 ^ j = (loW (a / 2 ^ (64 + j)) : Int) := by rw [s2]; exact cast_div_pow _ _
    have e6 : ((64 + j : Nat) : Int) = 64 + (j : Int) := by omega
    have hj : j < 192 := by omega
    by_cases cj : j < 64
    · rw [s1, e6]
      generalize loW (a / 2 ^ (64 + j)) = L at *
      clear s1 s2 ea h hh hl e6 c hk
      go_enter Oahg.func56, Oahg.ntmps56
      go_wp2
      exact bodyPost_ret (v := .agg #[.int .u64 0, .int .u64 L]) (by simp [results, Oahg.results56, go_sem]) rfl ⟨rfl, ((Below.refl _ _).alloc (Nat.le_refl _) _).alloc (by simp) _⟩
    · have hL : loW (a / 2 ^ (64 + j)) = 0 := by
        rw [s2]
        refine Nat.div_eq_of_lt (Nat.lt_of_lt_of_le hh ?_)
        exact Nat.pow_le_pow_right (n := 2) (i := 64) (by decide) (by omega)
      have hz : (hiW a : Int) / 2 ^ min j 64 = 0 := by
        rw [Nat.min_eq_right (by omega)]
        show (hiW a : Int) / 18446744073709551616 = 0
        omega
      rw [s1, hL, e6]
      clear s1 s2 ea h hh hl e6 c hk e1 hL
      go_enter Oahg.func56, Oahg.ntmps56
      go_wp2
      exact bodyPost_ret (v := .agg #[.int .u64 0, .int .u64 0]) (by simp [results, Oahg.results56, go_sem, hz]) rfl ⟨rfl, ((Below.refl _ _).alloc (Nat.le_refl _) _).alloc (by simp) _⟩
end Go.Proofs.Ygcoah
