/-
  PLAIN: in Binary64 soft's root is exact's. No Go in sight.
-/
import Derived.Test.YgcoahSqS
import Derived.Test.YgcoahXs
import Derived.Test.YgcoahXr
import Derived.Test.YgcoahEx11
namespace Go.Proofs.Ygcoah

theorem cut_parts (E M x : Nat) : cutP E M x = manOf M x + 2 ^ M * expOf E M x + 2 ^ (E + M) * (x / 2 ^ (E + M) % 2) := by
  unfold cutP manOf expOf
  have e1 : x % 2 ^ (E + M + 1) = x % 2 ^ (E + M) + 2 ^ (E + M) * (x / 2 ^ (E + M) % 2) := by rw [Nat.pow_succ, Nat.mod_mul]
  have e2 : x % 2 ^ (E + M) = x % 2 ^ M + 2 ^ M * (x / 2 ^ M % 2 ^ E) := by rw [Nat.add_comm E M, Nat.pow_add, Nat.mod_mul]
  rw [e1, e2]

theorem sgn_bit (E M x : Nat) : 2 ^ (E + M) * (x / 2 ^ (E + M) % 2) = sgnP E M (negOf E M x) := by
  unfold sgnP negOf
  rcases Nat.mod_two_eq_zero_or_one (x / 2 ^ (E + M)) with c | c
  · rw [c]; simp
  · rw [c]; simp

theorem cls_cases (E M x : Nat) : ((unp E M x).cls = 3 → expOf E M x = 2 ^ E - 1 ∧ manOf M x = 0) ∧ ((unp E M x).cls = 0 → expOf E M x = 0 ∧ manOf M x = 0) := by
  unfold unp
  by_cases c1 : expOf E M x = 2 ^ E - 1
  · rw [if_pos c1]
    by_cases c2 : manOf M x = 0
    · rw [if_pos c2]; exact ⟨fun _ => ⟨c1, c2⟩, (fun h => by cases h)⟩
    · rw [if_neg c2]; exact ⟨(fun h => by cases h), (fun h => by cases h)⟩
  · rw [if_neg c1]
    by_cases c3 : expOf E M x = 0
    · rw [if_pos c3]
      by_cases c2 : manOf M x = 0
      · rw [if_pos c2]; exact ⟨(fun h => by cases h), fun _ => ⟨c3, c2⟩⟩
      · rw [if_neg c2]; exact ⟨(fun h => by cases h), (fun h => by cases h)⟩
    · rw [if_neg c3]; exact ⟨(fun h => by cases h), (fun h => by cases h)⟩

theorem sqrtZ_same (E M x : Nat) (hs : (unp E M x).cls = 0 ∨ (unp E M x).cls = 4 ∨ (unp E M x).neg = true ∨ (unp E M x).cls = 3) : sqrtZ E M (unp E M x) = sqrtXZ E M x := by
  have hn := unp_neg E M x
  obtain ⟨k3, k0⟩ := cls_cases E M x
  have hcp := cut_parts E M x
  have hsg := sgn_bit E M x
  unfold sqrtZ sqrtXZ
  by_cases c4 : (unp E M x).cls = 4
  · rw [if_pos c4, if_neg (by omega), if_pos c4]
  rw [if_neg c4, if_neg c4, hn c4]
  by_cases c0 : (unp E M x).cls = 0
  · rw [if_pos c0, if_pos c0, hcp, hsg, (k0 c0).1, (k0 c0).2, hn c4]
    simp
  rw [if_neg c0, if_neg c0]
  by_cases cn : (unp E M x).neg = true
  · rw [if_pos cn, if_pos cn]
  · rw [if_neg cn, if_neg cn]
    have c3 : (unp E M x).cls = 3 := by rcases hs with z | z | z | z <;> first | omega | exact absurd z cn
    have cn' : (unp E M x).neg = false := by cases hh : (unp E M x).neg <;> simp_all
    rw [hcp, hsg, (k3 c3).1, (k3 c3).2, hn c4, cn']
    unfold infS infP sgnP
    rw [Nat.zero_add, Nat.mul_comm]

/-- All that the two roots want of a number in Binary64. -/
theorem sqrt64_plain (mode x s : Nat) (hc : (unp 11 52 x).cls = 1 ∨ (unp 11 52 x).cls = 2) (hs : IsSqrt (sqV 52 (unp 11 52 x)) s) :
    ∃ (r : Nat) (rl : Int), lgC (opN (unp 11 52 x)) (opD (unp 11 52 x)) (2 * eminI 11 - 200) (2 * (biasP 11 : Int)) / 2 = rl ∧ eminI 11 ≤ rl ∧ rl ≤ (biasP 11 : Int) ∧
      IsSqrt (opN (unp 11 52 x) * P2 (2 * (((52 : Nat) : Int) - rl)) / (opD (unp 11 52 x) * P2 (-(2 * (((52 : Nat) : Int) - rl))))) r ∧
      rootRaise mode r (opN (unp 11 52 x) * P2 (2 * (((52 : Nat) : Int) - rl))) (opD (unp 11 52 x) * P2 (-(2 * (((52 : Nat) : Int) - rl)))) ≤ 2 ^ (52 + 1) ∧
      softR 11 52 mode false (sqU 52 (unp 11 52 x)) (if s * s = sqV 52 (unp 11 52 x) then s else s ||| 1) =
        packP 11 52 mode false rl (rootRaise mode r (opN (unp 11 52 x) * P2 (2 * (((52 : Nat) : Int) - rl))) (opD (unp 11 52 x) * P2 (-(2 * (((52 : Nat) : Int) - rl))))) := by
  have h : FOk 11 52 := ⟨by decide, by decide, by decide, by decide⟩
  obtain ⟨f1, f2, f3, f4⟩ := unp_facts 11 52 x h
  obtain ⟨g1, g2⟩ := unp_man 11 52 x hc
  have hbias : biasP 11 = 1023 := by decide
  have hemin : eminI 11 = -1022 := by unfold eminI; rw [hbias]; decide
  obtain ⟨t1, t2, t3⟩ := top_range 52 (unp 11 52 x).man (by decide) g1 g2
  have eN : opN (unp 11 52 x) = (unp 11 52 x).man * P2 (unp 11 52 x).exp := by unfold opN; rw [if_pos (by omega)]
  have eD : opD (unp 11 52 x) = P2 (-(unp 11 52 x).exp) := by unfold opD; rw [if_pos (by omega)]
  rw [eN, eD]
  generalize unp 11 52 x = p at *
  obtain ⟨pn, pc, pe, pm⟩ := p
  simp only [] at *
  have hd : 0 < P2 (-pe) := P2_pos _
  have hp52 := pow_pos2 52
  have hnp : 0 < pm * P2 pe := Nat.mul_pos (by omega) (P2_pos _)
  -- the value and its exponent
  obtain ⟨v, hv⟩ : ∃ v, v = sqV 52 ⟨pn, pc, pe, pm⟩ := ⟨_, rfl⟩
  obtain ⟨u, hu⟩ : ∃ u, u = sqU 52 ⟨pn, pc, pe, pm⟩ := ⟨_, rfl⟩
  rw [← hv] at hs
  have key : 85070591730234615865843651857942052864 ≤ v ∧ v < 340282366920938463463374607431768211456 ∧ pm * P2 pe * P2 (-(2 * u)) = v * P2 (2 * u) * P2 (-pe) ∧ -700 ≤ u ∧ u ≤ 600 := by
    unfold sqV at hv
    unfold sqU at hu
    simp only [] at hv hu
    by_cases ce : (pe - 63 + ((52 : Nat) : Int)) % 2 = 0
    · rw [if_pos ce] at hv hu
      refine ⟨by omega, by omega, ?_, by omega, by omega⟩
      have hv2 : v = pm * 2 ^ 75 := by
        rw [hv, Nat.mul_assoc]
      rw [hv2, Nat.mul_assoc, Nat.mul_assoc, Nat.mul_assoc]
      congr 1
      unfold P2
      rw [← Nat.pow_add, ← Nat.pow_add, ← Nat.pow_add]
      congr 1
      omega
    · rw [if_neg ce] at hv hu
      refine ⟨by omega, by omega, ?_, by omega, by omega⟩
      have hv2 : v = pm * 2 ^ 74 := by
        rw [hv, Nat.mul_assoc]
      rw [hv2, Nat.mul_assoc, Nat.mul_assoc, Nat.mul_assoc]
      congr 1
      unfold P2
      rw [← Nat.pow_add, ← Nat.pow_add, ← Nat.pow_add]
      congr 1
      omega
  obtain ⟨hv1, hv2, hnum, hu1, hu2⟩ := key
  have hv0 : 0 < v := by omega
  have blv : bl v = 127 ∨ bl v = 128 := by
    have l : bl v ≤ 128 := (bl_le_iff _ _).2 hv2
    rcases Nat.lt_or_ge (bl v) 127 with a | a
    · have := (bl_le_iff v 126).1 (by omega)
      have e : (2 : Nat) ^ 126 = 85070591730234615865843651857942052864 := by decide
      omega
    · omega
  have hIL := rep_lg (M := 52) hv0 hd (Or.inl hnum)
  have hL : lgP (pm * P2 pe) (P2 (-pe)) = 2 * u + (bl v : Int) - 1 := lgP_eq hnp hd hIL
  have hnear := lgP_near (pm * P2 pe) (P2 (-pe))
  have hC : lgC (pm * P2 pe) (P2 (-pe)) (2 * eminI 11 - 200) (2 * (biasP 11 : Int)) = lgP (pm * P2 pe) (P2 (-pe)) := by
    unfold lgC
    rw [if_neg (by rw [hbias]; omega), if_neg (by rw [hemin]; omega)]
  have hrl : lgP (pm * P2 pe) (P2 (-pe)) / 2 = u + 63 := by rw [hL]; rcases blv with b | b <;> rw [b] <;> omega
  have hre : rootE 11 (pm * P2 pe) (P2 (-pe)) = u + 63 := by unfold rootE; rw [hrl, hemin]; omega
  obtain ⟨r, hr⟩ := exists_sqrt (pm * P2 pe * P2 (2 * (((52 : Nat) : Int) - (u + 63))) / (P2 (-pe) * P2 (-(2 * (((52 : Nat) : Int) - (u + 63))))))
  have hDp : 0 < P2 (-pe) * P2 (-(2 * (((52 : Nat) : Int) - (u + 63)))) := Nat.mul_pos hd (P2_pos _)
  obtain ⟨n1, n2⟩ := isSqrt_div hDp hr
  refine ⟨r, u + 63, by rw [hC, hrl], by rw [hemin]; omega, by rw [hbias]; omega, hr, ?_, ?_⟩
  · -- the root is below 2^53
    have hlt : pm * P2 pe * P2 (2 * (((52 : Nat) : Int) - (u + 63))) < 2 ^ 106 * (P2 (-pe) * P2 (-(2 * (((52 : Nat) : Int) - (u + 63))))) := by
      have h1 : pm * P2 pe * P2 (-(2 * u + (bl v : Int) - 1 + 1)) < 1 * P2 (2 * u + (bl v : Int) - 1 + 1) * P2 (-pe) := by rw [Nat.one_mul, Nat.mul_comm (P2 _)]; exact hIL.2
      rw [scale_lt (c := 2 * (((52 : Nat) : Int) - (u + 63))) (k := 128 - bl v) (l := 106) (by omega), Nat.one_mul] at h1
      exact Nat.lt_of_le_of_lt (Nat.le_mul_of_pos_right _ (pow_pos2 _)) h1
    have hr53 : r < 2 ^ 53 := by
      have h3 : r * r * (P2 (-pe) * P2 (-(2 * (((52 : Nat) : Int) - (u + 63))))) < 2 ^ 106 * (P2 (-pe) * P2 (-(2 * (((52 : Nat) : Int) - (u + 63))))) := Nat.lt_of_le_of_lt n1 hlt
      have h4 := Nat.lt_of_mul_lt_mul_right h3
      rw [show (2 : Nat) ^ 106 = 2 ^ 53 * 2 ^ 53 by rw [← Nat.pow_add]] at h4
      exact sq_lt.1 h4
    unfold rootRaise
    split <;> omega
  · have hsp := sqrt_plain 11 52 mode (pm * P2 pe) (P2 (-pe)) v s r u h hd hv1 hv2 hs.1 hs.2 hnum (by rw [hbias]; omega) (by rw [hre]; exact n1) (by rw [hre]; exact n2)
    rw [hre] at hsp
    rw [← hu, ← hv]
    exact hsp

end Go.Proofs.Ygcoah
