/-
  THE REGION 'x, y := open(f, a), open(f, b)': what an operand's value bears.
-/
import Derived.Test.YgcoahEx10
namespace Go.Proofs.Ygcoah
open Go.RowKit

theorem lasts_op (E M x : Nat) : Lasts (OpV E M x) := by
  refine ⟨fun w w' v h hb => ?_, fun b w w' v h hs => ?_⟩
  · obtain ⟨a, n, c, b, m, d, e, h1, h2⟩ := h
    exact ⟨a, n, c, b, m, d, e, h1.below hb, h2.below hb⟩
  · obtain ⟨a, n, c, b, m, d, e, h1, h2⟩ := h
    exact ⟨a, n, c, b, m, d, e, hs.nat _ _ h1, hs.nat _ _ h2⟩

theorem st_op (E M x y : Nat) (ev : Operand → Value) (b d u ty : Nat) (s : String) (A : Array Edge) (w : World) (v : Value) (h : OpV E M x w v ∨ OpV E M y w v) (hf : Fresh zs77 w b) (he : ev (.tmp d) = .pointer (some ⟨b, 0, none⟩)) (hu : ev (.tmp u) = v) :
    ∃ w', (execOp ev ⟨none, .store 77 (.tmp d) (.tmp u), ty, s, A, none⟩).run Oahg.prog w = .ok .skip w' ∧ Held w' b v ∧ St b w w' := by
  rcases h with ⟨a1, n1, c1, a2, n2, c2, rfl, _, _⟩ | ⟨a1, n1, c1, a2, n2, c2, rfl, _, _⟩
  · exact st77 ev b d u ty s A w _ _ _ _ _ _ _ _ _ _ hf he hu
  · exact st77 ev b d u ty s A w _ _ _ _ _ _ _ _ _ _ hf he hu

theorem call59 (args : Array Value) (w : World) : (callFunc 59 args).run Oahg.prog w = .ok (.enter 59 args) w := by simp [go_sem]

/-- The sign of what is no NaN. -/
theorem unp_neg (E M x : Nat) (h : (unp E M x).cls ≠ 4) : negOf E M x = (unp E M x).neg := by
  unfold unp at h ⊢
  by_cases c1 : expOf E M x = 2 ^ E - 1
  · rw [if_pos c1] at h ⊢
    by_cases c2 : manOf M x = 0
    · rw [if_pos c2]
    · rw [if_neg c2] at h; exact absurd rfl h
  · rw [if_neg c1]
    by_cases c3 : expOf E M x = 0
    · rw [if_pos c3]
      by_cases c2 : manOf M x = 0
      · rw [if_pos c2]
      · rw [if_neg c2]
    · rw [if_neg c3]

theorem unp_zero (E M x : Nat) (h : (unp E M x).cls = 0) : (unp E M x).exp = 0 ∧ (unp E M x).man = 0 := by
  unfold unp at h ⊢
  by_cases c1 : expOf E M x = 2 ^ E - 1
  · rw [if_pos c1] at h ⊢
    by_cases c2 : manOf M x = 0
    · rw [if_pos c2] at h; cases h
    · rw [if_neg c2] at h; cases h
  · rw [if_neg c1] at h ⊢
    by_cases c3 : expOf E M x = 0
    · rw [if_pos c3] at h ⊢
      by_cases c2 : manOf M x = 0
      · rw [if_pos c2]; exact ⟨rfl, rfl⟩
      · rw [if_neg c2] at h; cases h
    · rw [if_neg c3] at h; cases h

theorem op_sizes (E M x : Nat) (h : FOk E M) : bl (opN (unp E M x)) ≤ 1200 ∧ bl (opD (unp E M x)) ≤ 1300 ∧ 0 < opD (unp E M x) := by
  obtain ⟨f1, f2, f3, f4⟩ := unp_facts E M x h
  unfold opN opD
  by_cases c : (unp E M x).cls ≤ 2
  · rw [if_pos c, if_pos c]
    refine ⟨?_, ?_, P2_pos _⟩
    · have h1 : bl (unp E M x).man ≤ 53 := (bl_le_iff _ _).2 (by simpa using f4)
      unfold P2
      have h2 := bl_shl_le (unp E M x).man (unp E M x).exp.toNat
      omega
    · unfold P2
      rw [bl_pow]
      omega
  · rw [if_neg c, if_neg c]
    exact ⟨by decide, by decide, by decide⟩

end Go.Proofs.Ygcoah
