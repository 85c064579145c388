/-
  THE WALKS OF PACKAGE wide, 6: Div, ShrJam.
-/
import Derived.Test.YgcoahWide5
namespace Go.Proofs.Ygcoah
open Go.RowKit

theorem lin_help {N p q l0 x z Y r0 : Nat} (h1 : N = p + (q + l0)) (h2 : p + q = x + z) (h3 : z + l0 = Y + r0) : N = x + Y + r0 := by omega

theorem div_lin {N hi l1 l0 X r1 Y r0 : Nat} (hN : N = hi * 18446744073709551616 + (l1 * 4294967296 + l0)) (h1 : hi * 4294967296 + l1 = X + r1) (h0 : r1 * 4294967296 + l0 = Y + r0) : N = X * 4294967296 + Y + r0 := by
  have a : hi * 18446744073709551616 = hi * 4294967296 * 4294967296 := (Nat.mul_assoc hi 4294967296 4294967296).symm
  rw [a] at hN
  have b : (hi * 4294967296 + l1) * 4294967296 = (X + r1) * 4294967296 := by rw [h1]
  rw [Nat.add_mul, Nat.add_mul] at b
  exact lin_help hN b h0

theorem div_steps {N hi l1 l0 d q1 r1 q0 r0 : Nat} (hN : N = hi * 18446744073709551616 + (l1 * 4294967296 + l0)) (h1 : hi * 4294967296 + l1 = q1 * d + r1) (h0 : r1 * 4294967296 + l0 = q0 * d + r0) (hr : r0 < d) :
    N / d = q1 * 4294967296 + q0 ∧ N % d = r0 := by
  have e : N = d * (q1 * 4294967296 + q0) + r0 := by
    rw [div_lin hN h1 h0, Nat.mul_add, Nat.mul_comm d q0, ← Nat.mul_assoc, Nat.mul_comm d q1]
  have hd : 0 < d := Nat.lt_of_le_of_lt (Nat.zero_le _) hr
  rw [e]
  exact ⟨by rw [Nat.mul_add_div hd, Nat.div_eq_of_lt hr, Nat.add_zero], by rw [Nat.mul_add_mod, Nat.mod_eq_of_lt hr]⟩

theorem scale_div (a d p : Nat) (hp : 0 < p) : a * p / (d * p) = a / d ∧ a * p % (d * p) / p = a % d := by
  refine ⟨Nat.mul_div_mul_right _ _ hp, ?_⟩
  rw [Nat.mul_mod_mul_right, Nat.mul_div_cancel _ hp]

theorem norm_word (d : Nat) (h0 : 0 < d) (h : d < 18446744073709551616) : 9223372036854775808 ≤ d * 2 ^ (64 - bl d) ∧ d * 2 ^ (64 - bl d) < 18446744073709551616 := by
  obtain ⟨h1, h2⟩ := bl_bounds d h0
  have hb : bl d ≤ 64 := (bl_le_iff _ _).2 h
  have hp := bl_pos d h0
  have p1 : 2 ^ (bl d - 1) * 2 ^ (64 - bl d) = 9223372036854775808 := by rw [← Nat.pow_add, show bl d - 1 + (64 - bl d) = 63 by omega]
  have p2 : 2 ^ bl d * 2 ^ (64 - bl d) = 18446744073709551616 := by rw [← Nat.pow_add, show bl d + (64 - bl d) = 64 by omega]
  constructor
  · have := Nat.mul_le_mul_right (2 ^ (64 - bl d)) h1
    omega
  · have := Nat.mul_lt_mul_of_pos_right h2 (pow_pos2 (64 - bl d))
    omega

set_option maxHeartbeats 800000 in
theorem wdiv_any (a d : Nat) (w : World) (h0 : 0 < d) (hd : d < 18446744073709551616) (h : hiW a < d) :
    Calls Oahg.prog 85 #[.agg #[.int .u64 (hiW a), .int .u64 (loW a)], .int .u64 d] w fun e w' => e = .returned (.tuple #[.int .u64 (a / d : Nat), .int .u64 (a % d : Nat), .bool true]) ∧ Below w.heap.size w w' := by
  obtain ⟨n1, n2⟩ := norm_word d h0 hd
  have hb : bl d ≤ 64 := (bl_le_iff _ _).2 hd
  have hbp := bl_pos d h0
  have hcl := fun w' => clz_any d w' h0 hd
  obtain ⟨s, es⟩ : ∃ s, s = 64 - bl d := ⟨_, rfl⟩
  rw [← es] at n1 n2 hcl
  have hs : s < 64 := by omega
  have hal := hi_lo a
  have hll := loW_lt a
  have hA : a * 2 ^ s < d * 2 ^ s * 18446744073709551616 := by
    rw [Nat.mul_right_comm]
    exact Nat.mul_lt_mul_of_pos_right (by have := Nat.mul_le_mul_right 18446744073709551616 (show hiW a + 1 ≤ d by omega); omega) (pow_pos2 s)
  obtain ⟨sd1, sd2⟩ := scale_div a d (2 ^ s) (pow_pos2 s)
  have hA2 : a * 2 ^ s < 340282366920938463463374607431768211456 := by
    have := Nat.mul_le_mul_right 18446744073709551616 (Nat.le_of_lt n2)
    omega
  have hsh := fun w' => wshl_any a s w' (by omega) hA2
  have ed : IntKind.u64.wrap ((d : Int) * 2 ^ s) = ((d * 2 ^ s : Nat) : Int) := by rw [cast_mul_pow]; exact wrapN _ n2
  obtain ⟨N, eN⟩ : ∃ N, N = a * 2 ^ s := ⟨_, rfl⟩
  obtain ⟨D, eD⟩ : ∃ D, D = d * 2 ^ s := ⟨_, rfl⟩
  rw [← eN] at hA hA2 hsh sd1 sd2
  rw [← eD] at hA ed sd1 sd2 n1 n2
  have hNl := hi_lo N
  have hN1 := loW_lt N
  have hNh : hiW N < D := by
    false_or_by_contra
    have := Nat.mul_le_mul_right 18446744073709551616 (show D ≤ hiW N by omega)
    omega
  obtain ⟨l1, el1⟩ : ∃ l1, l1 = loW N / 4294967296 := ⟨_, rfl⟩
  obtain ⟨l0, el0⟩ : ∃ l0, l0 = loW N % 4294967296 := ⟨_, rfl⟩
  have q1 : (loW N : Int) / 4294967296 = (l1 : Int) := by omega
  have q0 := and_mask32 (loW N) hN1
  rw [← el0] at q0
  have hdv1 := fun w' => divHalf_any (hiW N) l1 D w' hNh (by omega) n1 n2
  have hr1 := Nat.mod_lt (hiW N * 4294967296 + l1) (show 0 < D by omega)
  have hq1 : (hiW N * 4294967296 + l1) / D < 4294967296 := by
    rw [Nat.div_lt_iff_lt_mul (by omega), Nat.mul_comm 4294967296]
    have := Nat.mul_le_mul_right 4294967296 (show hiW N + 1 ≤ D by omega)
    omega
  have e1 : hiW N * 4294967296 + l1 = (hiW N * 4294967296 + l1) / D * D + (hiW N * 4294967296 + l1) % D := by
    have := Nat.div_add_mod (hiW N * 4294967296 + l1) D
    rw [Nat.mul_comm] at this
    exact this.symm
  generalize (hiW N * 4294967296 + l1) / D = Q1 at *
  generalize (hiW N * 4294967296 + l1) % D = R1 at *
  have hdv0 := fun w' => divHalf_any R1 l0 D w' hr1 (by omega) n1 n2
  have hr0 := Nat.mod_lt (R1 * 4294967296 + l0) (show 0 < D by omega)
  have hq0 : (R1 * 4294967296 + l0) / D < 4294967296 := by
    rw [Nat.div_lt_iff_lt_mul (by omega), Nat.mul_comm 4294967296]
    have := Nat.mul_le_mul_right 4294967296 (show R1 + 1 ≤ D by omega)
    omega
  have e0 : R1 * 4294967296 + l0 = (R1 * 4294967296 + l0) / D * D + (R1 * 4294967296 + l0) % D := by
    have := Nat.div_add_mod (R1 * 4294967296 + l0) D
    rw [Nat.mul_comm] at this
    exact this.symm
  generalize (R1 * 4294967296 + l0) / D = Q0 at *
  generalize (R1 * 4294967296 + l0) % D = R0 at *
  obtain ⟨f1, f2⟩ := div_steps (N := N) (hi := hiW N) (l1 := l1) (l0 := l0) (by omega) e1 e0 hr0
  rw [sd1] at f1
  rw [f2] at sd2
  have hor := or_up Q0 Q1 hq0 hq1
  rw [show Q0 + Q1 * 4294967296 = a / d by rw [f1]; omega] at hor
  have hrs : (R0 : Int) / 2 ^ s = ((a % d : Nat) : Int) := by rw [cast_div_pow, sd2]
  generalize a / d = Q at *
  generalize a % d = R at *
  have hge : ¬ d ≤ hiW a := by omega
  clear f1 f2 sd1 sd2 e1 e0 hr0 hq0 hr1 eN eD hA hA2 hNl el1 el0 hal es n1 n2 hNh h hbp hb
  go_enter Oahg.func85, Oahg.ntmps85
  go_wp2_with (go_at_call 93; refine (hcl _).mono ?_; rintro e wb ⟨rfl, rfl⟩)
  refine (hsh _).mono ?_
  rintro e wc ⟨rfl, hbc⟩
  obtain ⟨hcc, hfc⟩ := bcell hbc
  have hz : w.heap.size < wc.heap.size := by have := hbc.size; simp at this; omega
  go_wp2_with (first | (go_at_call_of 134 (l1 : Int); refine (hdv1 _).mono ?_; rintro e wd ⟨rfl, hbd⟩; obtain ⟨hcd, hfd⟩ := bcell hbd) | (go_at_call_of 134 (l0 : Int); refine (hdv0 _).mono ?_; rintro e we ⟨rfl, hbe⟩))
  go_ret3
  refine ⟨rfl, ?_⟩
  have hB1 : Below w.heap.size w wc := ((Below.refl _ _).alloc (Nat.le_refl _) _).trans (hbc.mono (by simp))
  have hB2 := ((hB1.setCell (p := ⟨w.heap.size, 0, none⟩) (Nat.le_refl _) (.int .u64 (hiW N))).setCell (p := ⟨w.heap.size, 1, none⟩) (Nat.le_refl _) (.int .u64 (loW N))).trans (hbd.mono (by simp; omega))
  exact hB2.trans (hbe.mono hB2.size)
end Go.Proofs.Ygcoah
