/-
  THE WALKS OF PACKAGE exact, 1: raises, zero, emin, emax, toU64, shift.
-/
import Derived.Test.YgcoahSoft2
import Derived.Test.YgcoahNat12
import Derived.Test.YgcoahPl1
namespace Go.Proofs.Ygcoah
open Go.RowKit

set_option maxHeartbeats 800000 in
theorem eraises_any (mode : Nat) (neg odd : Bool) (c : Int) (s : Bool) (w : World) :
    Calls Oahg.prog 106 #[.int .u8 mode, .bool neg, .bool odd, .agg #[.int .i8 c, .bool s]] w fun e w' => e = .returned (.bool (raiseQ mode neg odd c s)) ∧ Below w.heap.size w w' := by
  unfold raiseQ
  by_cases m1 : mode = 1
  · subst m1
    rw [if_pos rfl]
    go_enter Oahg.func106, Oahg.ntmps106
    go_wp2
    go_ret
    exact ⟨rfl, (Below.refl _ _).alloc (Nat.le_refl _) _⟩
  rw [if_neg m1]
  have b1 : ((mode : Int) == 1) = false := by rw [beq_eq_false_iff_ne]; omega
  by_cases m2 : mode = 2
  · subst m2
    rw [if_pos rfl]
    clear m1 b1
    go_enter Oahg.func106, Oahg.ntmps106
    go_wp2
    go_ret
    exact ⟨rfl, (Below.refl _ _).alloc (Nat.le_refl _) _⟩
  rw [if_neg m2]
  have b2 : ((mode : Int) == 2) = false := by rw [beq_eq_false_iff_ne]; omega
  by_cases m3 : mode = 3
  · subst m3
    rw [if_pos rfl]
    clear m1 b1 m2 b2
    cases s <;> cases neg
    all_goals
      go_enter Oahg.func106, Oahg.ntmps106
      go_wp2
      go_ret
      exact ⟨rfl, (Below.refl _ _).alloc (Nat.le_refl _) _⟩
  rw [if_neg m3]
  have b3 : ((mode : Int) == 3) = false := by rw [beq_eq_false_iff_ne]; omega
  by_cases m4 : mode = 4
  · subst m4
    rw [if_pos rfl]
    clear m1 b1 m2 b2 m3 b3
    cases s <;> cases neg
    all_goals
      go_enter Oahg.func106, Oahg.ntmps106
      go_wp2
      go_ret
      exact ⟨rfl, (Below.refl _ _).alloc (Nat.le_refl _) _⟩
  rw [if_neg m4]
  have b4 : ((mode : Int) == 4) = false := by rw [beq_eq_false_iff_ne]; omega
  clear m1 m2 m3 m4
  by_cases c1 : 0 < c
  · rw [decide_eq_true c1, Bool.true_or]
    go_enter Oahg.func106, Oahg.ntmps106
    go_wp2
    go_ret
    exact ⟨rfl, (Below.refl _ _).alloc (Nat.le_refl _) _⟩
  · rw [decide_eq_false c1, Bool.false_or]
    have i : decide ((0 : Int) < c) = false := decide_eq_false c1
    by_cases c2 : c = 0
    · subst c2
      clear c1 i
      cases odd
      all_goals
        go_enter Oahg.func106, Oahg.ntmps106
        go_wp2
        go_ret
        exact ⟨rfl, (Below.refl _ _).alloc (Nat.le_refl _) _⟩
    · rw [decide_eq_false c2, Bool.false_and]
      have i2 : (c == 0) = false := by rw [beq_eq_false_iff_ne]; exact c2
      clear c1 c2
      go_enter Oahg.func106, Oahg.ntmps106
      go_wp2
      go_ret
      exact ⟨rfl, (Below.refl _ _).alloc (Nat.le_refl _) _⟩

set_option maxHeartbeats 400000 in
theorem ezero_any (E M : Nat) (neg : Bool) (w : World) (h : FOk E M) :
    Calls Oahg.prog 87 #[.agg #[.int .u8 E, .int .u8 M], .bool neg] w fun r w' => r = .returned (.int .u64 (sgnP E M neg)) ∧ Below w.heap.size w w' := by
  cases neg with
  | true =>
    have e : sgnP E M true = sbP E M := rfl
    rw [e]
    clear e
    go_enter Oahg.func87, Oahg.ntmps87
    go_wp2_with (go_at_call 82; refine (signBit_any _ _ _ h).mono ?_; rintro e w2 ⟨rfl, hb2⟩)
    go_ret
    exact ⟨rfl, ((Below.refl _ _).alloc (Nat.le_refl _) _).trans (hb2.mono (by simp))⟩
  | false =>
    go_enter Oahg.func87, Oahg.ntmps87
    go_wp2
    go_ret
    exact ⟨rfl, (Below.refl _ _).alloc (Nat.le_refl _) _⟩

theorem biasP_bd {E M : Nat} (h : FOk E M) : 1 ≤ (biasP E : Int) ∧ (biasP E : Int) ≤ 1023 := by
  have := h.powE1
  unfold biasP
  omega

set_option maxHeartbeats 400000 in
theorem emin_any (E M : Nat) (w : World) (h : FOk E M) :
    Calls Oahg.prog 62 #[.agg #[.int .u8 E, .int .u8 M]] w fun r w' => r = .returned (.int .i64 (eminI E)) ∧ Below w.heap.size w w' := by
  obtain ⟨l1, l2⟩ := biasP_bd h
  have hb := fun w' => bias_any E M w' h
  have e1 : IntKind.i64.wrap (1 - (biasP E : Int)) = eminI E := by unfold eminI; rw [IntWalk.i64_in _ (by omega)]
  have e2 : IntKind.i64.wrap (biasP E : Int) = (biasP E : Int) := IntWalk.i64_in _ (by omega)
  generalize (biasP E : Int) = b at *
  generalize eminI E = m at *
  go_enter Oahg.func62, Oahg.ntmps62
  go_wp2_with (go_at_call 90; refine (hb _).mono ?_; rintro e w2 ⟨rfl, hb2⟩)
  go_ret
  exact ⟨rfl, ((Below.refl _ _).alloc (Nat.le_refl _) _).trans (hb2.mono (by simp))⟩

set_option maxHeartbeats 400000 in
theorem emax_any (E M : Nat) (w : World) (h : FOk E M) :
    Calls Oahg.prog 63 #[.agg #[.int .u8 E, .int .u8 M]] w fun r w' => r = .returned (.int .i64 (biasP E : Int)) ∧ Below w.heap.size w w' := by
  obtain ⟨l1, l2⟩ := biasP_bd h
  have hb := fun w' => bias_any E M w' h
  have e2 : IntKind.i64.wrap (biasP E : Int) = (biasP E : Int) := IntWalk.i64_in _ (by omega)
  generalize (biasP E : Int) = b at *
  go_enter Oahg.func63, Oahg.ntmps63
  go_wp2_with (go_at_call 90; refine (hb _).mono ?_; rintro e w2 ⟨rfl, hb2⟩)
  go_ret
  exact ⟨rfl, ((Below.refl _ _).alloc (Nat.le_refl _) _).trans (hb2.mono (by simp))⟩

end Go.Proofs.Ygcoah
