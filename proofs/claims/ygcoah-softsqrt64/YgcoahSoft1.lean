/-
  THE WALKS OF PACKAGE soft, 1: zero, cut, raises, overflow.
-/
import Derived.Test.YgcoahWide2
import Derived.Test.YgcoahRound
namespace Go.Proofs.Ygcoah
open Go.RowKit

set_option maxHeartbeats 400000 in
theorem szero_any (E M : Nat) (neg : Bool) (w : World) (h : FOk E M) :
    Calls Oahg.prog 51 #[.agg #[.int .u8 E, .int .u8 M], .bool neg] w fun r w' => r = .returned (.int .u64 (sgnP E M neg)) ∧ Below w.heap.size w w' := by
  cases neg with
  | true =>
    have e : sgnP E M true = sbP E M := rfl
    rw [e]
    clear e
    go_enter Oahg.func51, Oahg.ntmps51
    go_wp2_with (go_at_call 82; refine (signBit_any _ _ _ h).mono ?_; rintro e w2 ⟨rfl, hb2⟩)
    go_ret
    exact ⟨rfl, ((Below.refl _ _).alloc (Nat.le_refl _) _).trans (hb2.mono (by simp))⟩
  | false =>
    go_enter Oahg.func51, Oahg.ntmps51
    go_wp2
    go_ret
    exact ⟨rfl, (Below.refl _ _).alloc (Nat.le_refl _) _⟩

theorem ret_two' {k l : IntKind} {a b c d : Int} (h : a = b) (h' : c = d) : Ending.returned (.tuple #[.int k a, .int l c]) = .returned (.tuple #[.int k b, .int l d]) := by rw [h, h']

set_option maxHeartbeats 400000 in
theorem cut_any (s k : Nat) (w : World) (hs : s < 18446744073709551616) (hk : k ≤ 30000) :
    Calls Oahg.prog 98 #[.int .u64 s, .int .i16 k] w fun r w' => r = .returned (.tuple #[.int .u64 (s / 2 ^ k : Nat), .int .u64 (cutR s k)]) ∧ Below w.heap.size w w' := by
  by_cases c0 : k = 0
  · subst c0
    have e1 : cutR s 0 = 0 := by
      unfold cutR; rw [if_pos (by omega)]
      show s * 18446744073709551616 % 18446744073709551616 = 0
      exact Nat.mul_mod_left _ _
    have e2 : s / 2 ^ 0 = s := by simp
    rw [e1, e2]
    clear e1 e2
    go_enter Oahg.func98, Oahg.ntmps98
    go_wp2
    go_ret2
    exact ⟨rfl, Below.refl _ _⟩
  · by_cases c1 : k ≤ 64
    · have e1 : IntKind.u64.wrap ((s : Int) * 2 ^ (64 - k)) = (cutR s k : Int) := by
        unfold cutR; rw [if_pos c1, cast_mul_pow, IntKind.wrap_u64]; omega
      have e2 : (s : Int) / 2 ^ k = ((s / 2 ^ k : Nat) : Int) := cast_div_pow _ _
      have i1 : (0 : Int) ≤ 64 - (k : Int) := by omega
      have i2 : (0 : Int) ≤ (k : Int) := by omega
      have w1 : IntKind.i16.wrap (64 - (k : Int)) = ((64 - k : Nat) : Int) := by rw [IntWalk.i16_in _ (by omega)]; omega
      have m1 : min k 64 = k := by omega
      have m2 : min (64 - k) 64 = 64 - k := by omega
      have b0 : ((k : Int) == 0) = false := by rw [beq_eq_false_iff_ne]; omega
      generalize cutR s k = R at *
      generalize s / 2 ^ k = N at *
      go_enter Oahg.func98, Oahg.ntmps98
      go_wp2
      go_quiet (fail)
      go_wp2
      go_ret2
      exact ⟨ret_two' rfl rfl, below_drewN (Below.refl _ _) _⟩
    · have e2 : s / 2 ^ k = 0 := by
        refine Nat.div_eq_of_lt (Nat.lt_of_lt_of_le hs ?_)
        exact Nat.pow_le_pow_right (n := 2) (i := 64) (by decide) (by omega)
      have b0 : ((k : Int) == 0) = false := by rw [beq_eq_false_iff_ne]; omega
      by_cases c2 : s = 0
      · have e1 : cutR s k = 0 := by unfold cutR; rw [if_neg c1, if_pos c2]
        rw [e1, e2]
        subst c2
        clear e1 e2
        go_enter Oahg.func98, Oahg.ntmps98
        go_wp2
        go_ret2
        exact ⟨rfl, Below.refl _ _⟩
      · have e1 : cutR s k = 1 := by unfold cutR; rw [if_neg c1, if_neg c2]
        have b2 : ((s : Int) == 0) = false := by rw [beq_eq_false_iff_ne]; omega
        rw [e1, e2]
        clear e1 e2
        go_enter Oahg.func98, Oahg.ntmps98
        go_wp2
        go_ret2
        exact ⟨rfl, Below.refl _ _⟩
end Go.Proofs.Ygcoah
