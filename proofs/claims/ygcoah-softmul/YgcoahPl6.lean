/-
  PLAIN: soft's product is exact's, the special operands too. No Go in sight.
-/
import Derived.Test.YgcoahMulS
import Derived.Test.YgcoahMulX
import Derived.Test.YgcoahPl3
namespace Go.Proofs.Ygcoah

theorem mul_same (E M mode x y : Nat) (h : FOk E M) : mulR E M mode (unp E M x) (unp E M y) = mulE E M mode x y := by
  obtain ⟨f1, f2, f3, f4⟩ := unp_facts E M x h
  obtain ⟨g1, g2, g3, g4⟩ := unp_facts E M y h
  have nx := unp_neg E M x
  have ny := unp_neg E M y
  have zx := unp_zero E M x
  have zy := unp_zero E M y
  have mx := unp_man E M x
  have my := unp_man E M y
  unfold mulR mulE opN opD
  generalize negOf E M x = n1 at *
  generalize negOf E M y = n2 at *
  generalize unp E M x = p at *
  generalize unp E M y = q at *
  obtain ⟨pn, pc, pe, pm⟩ := p
  obtain ⟨qn, qc, qe, qm⟩ := q
  simp only [] at *
  have hp := pow_pos2 M
  by_cases c1 : pc = 4 ∨ qc = 4
  · rw [if_pos c1, if_pos c1]
  rw [if_neg c1, if_neg c1, nx (by omega), ny (by omega)]
  by_cases c2 : (pc = 3 ∧ qc = 0) ∨ (pc = 0 ∧ qc = 3)
  · rw [if_pos c2, if_pos c2]
  rw [if_neg c2, if_neg c2]
  by_cases c3 : pc = 3 ∨ qc = 3
  · rw [if_pos c3, if_pos c3]
  rw [if_neg c3, if_neg c3, if_pos (show pc ≤ 2 by omega), if_pos (show qc ≤ 2 by omega), if_pos (show pc ≤ 2 by omega), if_pos (show qc ≤ 2 by omega)]
  by_cases c4 : pc = 0 ∨ qc = 0
  · rw [if_pos c4]
    unfold roundR
    have hz : pm * P2 pe * (qm * P2 qe) = 0 := by
      rcases c4 with c | c
      · rw [(zx c).2]; simp
      · rw [(zy c).2]; simp
    rw [if_pos hz]
  · rw [if_neg c4]
    have o1 := mx (by omega)
    have o2 := my (by omega)
    exact mul_plain E M mode pm qm (pn != qn) pe qe h (by omega) (by omega) f4 g4

end Go.Proofs.Ygcoah
