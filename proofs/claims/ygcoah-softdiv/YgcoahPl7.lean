/-
  PLAIN: soft's quotient is exact's, the special operands too. No Go in sight.
-/
import Derived.Test.YgcoahDivS
import Derived.Test.YgcoahDivX
import Derived.Test.YgcoahPl3
namespace Go.Proofs.Ygcoah

theorem div_same (E M mode x y : Nat) (h : FOk E M) : divR E M mode (unp E M x) (unp E M y) = divE E M mode x y := by
  obtain ⟨f1, f2, f3, f4⟩ := unp_facts E M x h
  obtain ⟨g1, g2, g3, g4⟩ := unp_facts E M y h
  have nx := unp_neg E M x
  have ny := unp_neg E M y
  have zx := unp_zero E M x
  have zy := unp_zero E M y
  have mx := unp_man E M x
  have my := unp_man E M y
  unfold divR divE opN opD
  generalize negOf E M x = n1 at *
  generalize negOf E M y = n2 at *
  generalize unp E M x = p at *
  generalize unp E M y = q at *
  obtain ⟨pn, pc, pe, pm⟩ := p
  obtain ⟨qn, qc, qe, qm⟩ := q
  simp only [] at *
  have hp := pow_pos2 M
  by_cases c1 : pc = 4 ∨ qc = 4
  · rw [if_pos c1, if_pos c1]
  rw [if_neg c1, if_neg c1, nx (by omega), ny (by omega)]
  by_cases c2 : (pc = 3 ∧ qc = 3) ∨ (pc = 0 ∧ qc = 0)
  · rw [if_pos c2, if_pos c2]
  rw [if_neg c2, if_neg c2]
  by_cases c3 : pc = 3
  · rw [if_pos c3, if_pos c3]
  rw [if_neg c3, if_neg c3]
  by_cases c4 : qc = 0
  · rw [if_pos c4, if_pos c4]
  rw [if_neg c4, if_neg c4]
  by_cases c5 : qc = 3
  · rw [if_pos (Or.inr c5), if_pos c5]
  rw [if_neg c5, if_pos (show pc ≤ 2 by omega), if_pos (show qc ≤ 2 by omega), if_pos (show pc ≤ 2 by omega), if_pos (show qc ≤ 2 by omega)]
  by_cases c6 : pc = 0
  · rw [if_pos (Or.inl c6)]
    unfold roundR
    rw [if_pos (by rw [(zx c6).2]; simp)]
  · rw [if_neg (by omega)]
    have o1 := mx (by omega)
    have o2 := my (by omega)
    obtain ⟨r1, r2, r3, r4, r5, r6⟩ := div_range M pm qm h.2.2.2 o1.1 o1.2 o2.1 o2.2
    have hdm := Nat.div_add_mod (pm * 2 ^ (63 - M) * 9223372036854775808) (qm * 2 ^ (63 - M))
    rw [Nat.mul_comm (qm * 2 ^ (63 - M))] at hdm
    exact div_plain E M mode pm qm (2 ^ (63 - M)) _ _ (pn != qn) pe qe h (pow_pos2 _) (by omega) r5 r6 hdm.symm (Nat.mod_lt _ (by omega))

end Go.Proofs.Ygcoah
