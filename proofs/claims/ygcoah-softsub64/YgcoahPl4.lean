/-
  PLAIN: the sum. No Go in sight.
-/
import Derived.Test.YgcoahPl3
import Derived.Test.YgcoahAddF
namespace Go.Proofs.Ygcoah

/-- What shrJam leaves of the lesser, moved down by g (by 255 at most): it, or an odd number strictly beside it, and small. -/
theorem shrJ_rep (M my0 g : Nat) (hM : M ≤ 52) (h1 : 2 ^ M ≤ my0) (h2 : my0 < 2 ^ (M + 1)) :
    my0 * 2 ^ (126 - M) = shrJ (my0 * 2 ^ (126 - M)) (min g 255) * 2 ^ g ∨
    (shrJ (my0 * 2 ^ (126 - M)) (min g 255) % 2 = 1 ∧ shrJ (my0 * 2 ^ (126 - M)) (min g 255) ≤ 9007199254740993 ∧
      (shrJ (my0 * 2 ^ (126 - M)) (min g 255) - 1) * 2 ^ g < my0 * 2 ^ (126 - M) ∧ my0 * 2 ^ (126 - M) < (shrJ (my0 * 2 ^ (126 - M)) (min g 255) + 1) * 2 ^ g) := by
  have hlt : my0 * 2 ^ (126 - M) < 170141183460469231731687303715884105728 := by
    have a : my0 * 2 ^ (126 - M) < 2 ^ (M + 1) * 2 ^ (126 - M) := Nat.mul_lt_mul_of_pos_right h2 (pow_pos2 _)
    rw [← Nat.pow_add, show M + 1 + (126 - M) = 127 by omega] at a
    exact a
  have hpos : 0 < my0 * 2 ^ (126 - M) := Nat.mul_pos (Nat.lt_of_lt_of_le (pow_pos2 M) h1) (pow_pos2 _)
  by_cases c : g ≤ 255
  · rw [Nat.min_eq_left c]
    unfold shrJ
    split
    · rename_i z
      refine Or.inl ?_
      exact (Nat.div_mul_cancel (Nat.dvd_of_mod_eq_zero z)).symm
    · rename_i z
      refine Or.inr ?_
      have hg : 126 - M < g := by
        rcases Nat.lt_or_ge (126 - M) g with a | a
        · exact a
        · exfalso
          apply z
          rw [show 126 - M = 126 - M - g + g by omega, Nat.pow_add, ← Nat.mul_assoc]
          exact Nat.mul_mod_left _ _
      have hdm := Nat.div_add_mod (my0 * 2 ^ (126 - M)) (2 ^ g)
      have hml := Nat.mod_lt (my0 * 2 ^ (126 - M)) (pow_pos2 g)
      have hsm : my0 * 2 ^ (126 - M) / 2 ^ g ≤ 9007199254740992 := by
        have a : my0 * 2 ^ (126 - M) / 2 ^ g ≤ my0 * 2 ^ (126 - M) / 2 ^ 74 := Nat.div_le_div_left (Nat.pow_le_pow_right (by decide) (by omega)) (by decide)
        have b : my0 * 2 ^ (126 - M) / 2 ^ 74 ≤ 9007199254740992 := by
          have : (2 : Nat) ^ 74 = 18889465931478580854784 := by decide
          rw [this]
          omega
        omega
      rw [or_one]
      generalize my0 * 2 ^ (126 - M) = m at *
      generalize m / 2 ^ g = q at *
      have e1 : q / 2 * 2 * 2 ^ g ≤ q * 2 ^ g := Nat.mul_le_mul_right _ (by omega)
      have e2 : (q + 1) * 2 ^ g ≤ (q / 2 * 2 + 1 + 1) * 2 ^ g := Nat.mul_le_mul_right _ (by omega)
      rw [Nat.add_mul q, Nat.one_mul] at e2
      rw [Nat.mul_comm (2 ^ g)] at hdm
      refine ⟨by omega, by omega, ?_, ?_⟩
      · rw [Nat.add_sub_cancel]; omega
      · omega
  · rw [Nat.min_eq_right (by omega)]
    have h255 : (170141183460469231731687303715884105728 : Nat) ≤ 2 ^ 255 := by decide
    have hg2 : (2 : Nat) ^ 255 ≤ 2 ^ g := Nat.pow_le_pow_right (by decide) (by omega)
    have e0 : my0 * 2 ^ (126 - M) / 2 ^ 255 = 0 := Nat.div_eq_of_lt (Nat.lt_of_lt_of_le hlt h255)
    have e1 : my0 * 2 ^ (126 - M) % 2 ^ 255 = my0 * 2 ^ (126 - M) := Nat.mod_eq_of_lt (Nat.lt_of_lt_of_le hlt h255)
    unfold shrJ
    rw [e1, if_neg (by omega), e0]
    refine Or.inr ⟨by decide, by decide, ?_, ?_⟩
    · rw [show ((0 : Nat) ||| 1) - 1 = 0 by decide, Nat.zero_mul]; exact hpos
    · rw [show ((0 : Nat) ||| 1) + 1 = 2 by decide]; omega

/-- V * 2^ey as a fraction, against V * 2^(126-M) in units of 2^(ex-126+M), moved up by g = ex - ey. -/
theorem sum_scale (V M g : Nat) (ex ey : Int) (hM : M ≤ 52) (hg : ex - ey = (g : Int)) :
    V * (P2 ey * P2 (-ex)) * P2 (-(ex - 126 + (M : Int))) * 2 ^ g = V * 2 ^ (126 - M) * (P2 (-ex) * P2 (-ey) * P2 (ex - 126 + (M : Int))) := by
  have e : P2 ey * P2 (-ex) * P2 (-(ex - 126 + (M : Int))) * 2 ^ g = 2 ^ (126 - M) * (P2 (-ex) * P2 (-ey) * P2 (ex - 126 + (M : Int))) := by
    unfold P2
    simp only [← Nat.pow_add]
    congr 1
    omega
  rw [Nat.mul_assoc V, Nat.mul_assoc V, e, ← Nat.mul_assoc]

theorem xy_shape (mx : Nat) (g : Nat) (ex ey : Int) (hg : ex - ey = (g : Int)) : mx * P2 ex * P2 (-ey) = mx * 2 ^ g * (P2 ey * P2 (-ex)) := by
  rw [Nat.mul_assoc, Nat.mul_assoc]
  congr 1
  unfold P2
  simp only [← Nat.pow_add]
  congr 1
  omega

theorem sumX_plain (E M mode mx my : Nat) (nx ny : Bool) (ex ey : Int) (h : FOk E M) (hx1 : 2 ^ M ≤ mx) (hx2 : mx < 2 ^ (M + 1)) (hy1 : 2 ^ M ≤ my) (hy2 : my < 2 ^ (M + 1)) (hge : ey ≤ ex) (hge2 : ex = ey → my ≤ mx) :
    my * P2 ey * P2 (-ex) ≤ mx * P2 ex * P2 (-ey) ∧ (ey < ex → my * P2 ey * P2 (-ex) < mx * P2 ex * P2 (-ey)) ∧
    sumX E M mode nx (ex - 126 + (M : Int)) (mx * 2 ^ (126 - M)) ny (ey - 126 + (M : Int)) (my * 2 ^ (126 - M)) =
      if nx = ny then roundR E M mode nx (mx * P2 ex * P2 (-ey) + my * P2 ey * P2 (-ex)) (P2 (-ex) * P2 (-ey))
      else if mx * P2 ex * P2 (-ey) = my * P2 ey * P2 (-ex) then sgnP E M (decide (mode = 4))
      else roundR E M mode nx (mx * P2 ex * P2 (-ey) - my * P2 ey * P2 (-ex)) (P2 (-ex) * P2 (-ey)) := by
  have hM := h.2.2.2
  obtain ⟨g, hg⟩ : ∃ g : Nat, ex - ey = (g : Int) := ⟨(ex - ey).toNat, by omega⟩
  have hg' : (ex - 126 + (M : Int) - (ey - 126 + (M : Int))).toNat = g := by omega
  have hpow : (2 : Nat) ^ (M + 1) = 2 * 2 ^ M := Nat.pow_succ'
  have hle : my ≤ mx * 2 ^ g ∧ (0 < g → my < mx * 2 ^ g) := by
    rcases Nat.eq_zero_or_pos g with z | z
    · subst z
      rw [Nat.pow_zero, Nat.mul_one]
      exact ⟨hge2 (by omega), fun a => absurd a (by decide)⟩
    · have a : 2 ≤ 2 ^ g := Nat.pow_le_pow_right (n := 2) (i := 1) (by decide) z
      have b : mx * 2 ≤ mx * 2 ^ g := Nat.mul_le_mul_left _ a
      omega
  have ex_ : mx * P2 ex * P2 (-ey) = mx * 2 ^ g * (P2 ey * P2 (-ex)) := xy_shape mx g ex ey hg
  have ey_ : my * P2 ey * P2 (-ex) = my * (P2 ey * P2 (-ex)) := Nat.mul_assoc _ _ _
  have hW : 0 < P2 ey * P2 (-ex) := Nat.mul_pos (P2_pos _) (P2_pos _)
  have hscale := fun V => sum_scale V M g ex ey hM hg
  have hd : 0 < P2 (-ex) * P2 (-ey) := Nat.mul_pos (P2_pos _) (P2_pos _)
  have hB : 0 < P2 (-ex) * P2 (-ey) * P2 (ex - 126 + (M : Int)) := Nat.mul_pos hd (P2_pos _)
  have hp2g := pow_pos2 g
  rw [ex_, ey_]
  refine ⟨Nat.mul_le_mul_right _ hle.1, fun c => Nat.mul_lt_mul_of_pos_right (hle.2 (by omega)) hW, ?_⟩
  have hxl : mx * 2 ^ (126 - M) < 170141183460469231731687303715884105728 := by
    have a : mx * 2 ^ (126 - M) < 2 ^ (M + 1) * 2 ^ (126 - M) := Nat.mul_lt_mul_of_pos_right hx2 (pow_pos2 _)
    rw [← Nat.pow_add, show M + 1 + (126 - M) = 127 by omega] at a
    exact a
  have hyl : my * 2 ^ (126 - M) < 170141183460469231731687303715884105728 := by
    have a : my * 2 ^ (126 - M) < 2 ^ (M + 1) * 2 ^ (126 - M) := Nat.mul_lt_mul_of_pos_right hy2 (pow_pos2 _)
    rw [← Nat.pow_add, show M + 1 + (126 - M) = 127 by omega] at a
    exact a
  have hxg : 85070591730234615865843651857942052864 ≤ mx * 2 ^ (126 - M) := by
    have a : 2 ^ M * 2 ^ (126 - M) ≤ mx * 2 ^ (126 - M) := Nat.mul_le_mul_right _ hx1
    rw [← Nat.pow_add, show M + (126 - M) = 126 by omega] at a
    exact a
  have hxe : mx * 2 ^ (126 - M) % 2 = 0 := by
    rw [show 126 - M = 125 - M + 1 by omega, Nat.pow_succ, ← Nat.mul_assoc]
    exact Nat.mul_mod_left _ _
  have hrep := shrJ_rep M my g hM hy1 hy2
  have hbl : shrJ (my * 2 ^ (126 - M)) (min g 255) ≤ my * 2 ^ (126 - M) := shrJ_le _ _
  have hhalf : 0 < g → shrJ (my * 2 ^ (126 - M)) (min g 255) < 85070591730234615865843651857942052864 := fun c => shrJ_half _ _ (by omega) hyl
  have hz : g = 0 → shrJ (my * 2 ^ (126 - M)) (min g 255) = my * 2 ^ (126 - M) := by
    intro c; subst c; rw [Nat.min_eq_left (by decide), shrJ_zero]
  unfold sumX
  rw [hg']
  generalize hb : shrJ (my * 2 ^ (126 - M)) (min g 255) = b at *
  have eF : ∀ σ : Nat, σ * (P2 (-ex) * P2 (-ey) * P2 (ex - 126 + (M : Int))) * 2 ^ g = σ * 2 ^ g * (P2 (-ex) * P2 (-ey) * P2 (ex - 126 + (M : Int))) := fun σ => Nat.mul_right_comm _ _ _
  -- from V*F against T*2^g to the fraction against T
  have lift : ∀ (V T : Nat), 0 < T → T < 340282366920938463463374607431768211456 →
      (V * 2 ^ (126 - M) = T * 2 ^ g ∨ (T % 2 = 1 ∧ 65 ≤ bl T ∧ (T - 1) * 2 ^ g < V * 2 ^ (126 - M) ∧ V * 2 ^ (126 - M) < (T + 1) * 2 ^ g)) →
      softR E M mode nx (ex - 126 + (M : Int) - 64 + (bl T : Int)) (jamP T) = roundR E M mode nx (V * (P2 ey * P2 (-ex))) (P2 (-ex) * P2 (-ey)) := by
    intro V T hT0 hT hc
    obtain ⟨j1, j2⟩ := jamP_pos _ hT0 hT
    refine soft_is_round E M mode nx _ _ _ _ h j1 j2 hd ?_
    refine jam_rep M T _ _ (ex - 126 + (M : Int)) hM hT0 hT hd ?_
    have hs := hscale V
    rcases hc with hc | ⟨h1, h2, h3, h4⟩
    · left
      apply Nat.eq_of_mul_eq_mul_right hp2g
      rw [hs, eF, hc]
    · right
      refine ⟨h1, h2, ?_, ?_⟩
      · apply Nat.lt_of_mul_lt_mul_right (a := 2 ^ g)
        rw [hs, eF]
        exact Nat.mul_lt_mul_of_pos_right h3 hB
      · apply Nat.lt_of_mul_lt_mul_right (a := 2 ^ g)
        rw [hs, eF]
        exact Nat.mul_lt_mul_of_pos_right h4 hB
  have hVx : mx * 2 ^ g * 2 ^ (126 - M) = mx * 2 ^ (126 - M) * 2 ^ g := Nat.mul_right_comm _ _ _
  have bl65 : ∀ T : Nat, 18446744073709551616 ≤ T → 65 ≤ bl T := by
    intro T hT
    rcases Nat.lt_or_ge (bl T) 65 with a | a
    · have := (bl_le_iff T 64).1 (by omega); omega
    · exact a
  by_cases cs : nx = ny
  · rw [if_pos cs, if_pos cs, ← Nat.add_mul]
    refine lift (mx * 2 ^ g + my) _ (by omega) (by omega) ?_
    rw [Nat.add_mul, hVx]
    rcases hrep with hr | ⟨r1, r2, r3, r4⟩
    · left; rw [Nat.add_mul, ← hr]
    · right
      refine ⟨by omega, bl65 _ (by omega), ?_, ?_⟩
      · rw [show mx * 2 ^ (126 - M) + b - 1 = mx * 2 ^ (126 - M) + (b - 1) by omega, Nat.add_mul]; omega
      · rw [show mx * 2 ^ (126 - M) + b + 1 = mx * 2 ^ (126 - M) + (b + 1) by omega, Nat.add_mul]; omega
  · rw [if_neg cs, if_neg cs]
    by_cases ce : mx * 2 ^ g = my
    · have g0 : g = 0 := by omega
      have ce' : mx = my := by rw [g0, Nat.pow_zero, Nat.mul_one] at ce; exact ce
      rw [if_pos (show b = mx * 2 ^ (126 - M) by rw [hz g0, ce']), if_pos (by rw [ce])]
    · have clt : my < mx * 2 ^ g := by omega
      have hbx : b < mx * 2 ^ (126 - M) := by
        rcases Nat.eq_zero_or_pos g with z | z
        · rw [hz z]
          rw [z, Nat.pow_zero, Nat.mul_one] at clt
          exact Nat.mul_lt_mul_of_pos_right clt (pow_pos2 _)
        · exact Nat.lt_of_lt_of_le (hhalf z) hxg
      rw [if_neg (by omega), if_neg (by
        intro a; exact ce (Nat.eq_of_mul_eq_mul_right hW a)), ← Nat.sub_mul]
      refine lift (mx * 2 ^ g - my) _ (by omega) (by omega) ?_
      rw [Nat.sub_mul, hVx]
      have hcl : my * 2 ^ (126 - M) < mx * 2 ^ (126 - M) * 2 ^ g := by
        rw [← hVx]; exact Nat.mul_lt_mul_of_pos_right clt (pow_pos2 _)
      rcases hrep with hr | ⟨r1, r2, r3, r4⟩
      · left; rw [Nat.sub_mul, ← hr]
      · right
        refine ⟨by omega, bl65 _ (by omega), ?_, ?_⟩
        · rw [show mx * 2 ^ (126 - M) - b - 1 = mx * 2 ^ (126 - M) - (b + 1) by omega, Nat.sub_mul]; omega
        · rw [show mx * 2 ^ (126 - M) - b + 1 = mx * 2 ^ (126 - M) - (b - 1) by omega, Nat.sub_mul]; omega

/-- What exact.AddFlags answers for finite operands. -/
def addE (E M mode : Nat) (p q : Pt) : Nat :=
  if p.neg = q.neg then
    if p.man * P2 p.exp * P2 (-q.exp) + q.man * P2 q.exp * P2 (-p.exp) = 0 then sgnP E M p.neg
    else roundR E M mode p.neg (p.man * P2 p.exp * P2 (-q.exp) + q.man * P2 q.exp * P2 (-p.exp)) (P2 (-p.exp) * P2 (-q.exp))
  else if q.man * P2 q.exp * P2 (-p.exp) ≤ p.man * P2 p.exp * P2 (-q.exp) then
    if p.man * P2 p.exp * P2 (-q.exp) - q.man * P2 q.exp * P2 (-p.exp) = 0 then sgnP E M (decide (mode = 4))
    else roundR E M mode p.neg (p.man * P2 p.exp * P2 (-q.exp) - q.man * P2 q.exp * P2 (-p.exp)) (P2 (-p.exp) * P2 (-q.exp))
  else roundR E M mode q.neg (q.man * P2 q.exp * P2 (-p.exp) - p.man * P2 p.exp * P2 (-q.exp)) (P2 (-p.exp) * P2 (-q.exp))

/-- A finite operand: zero, or with its leading bit at M. -/
def FinPt (M : Nat) (p : Pt) : Prop := (p.cls = 0 ∧ p.exp = 0 ∧ p.man = 0) ∨ (p.cls ≠ 0 ∧ 2 ^ M ≤ p.man ∧ p.man < 2 ^ (M + 1))

theorem one_round (E M mode m : Nat) (neg : Bool) (e : Int) (h : FOk E M) (h1 : 2 ^ M ≤ m) (h2 : m < 2 ^ (M + 1)) : softR E M mode neg e m = roundR E M mode neg (m * P2 e) (P2 (-e)) := by
  have hM := h.2.2.2
  have hl : m < 18446744073709551616 := by
    have : (2 : Nat) ^ (M + 1) ≤ 2 ^ 64 := Nat.pow_le_pow_right (by decide) (by omega)
    have e : (2 : Nat) ^ 64 = 18446744073709551616 := by decide
    omega
  exact soft_is_round E M mode neg e m _ _ h (Nat.lt_of_lt_of_le (pow_pos2 M) h1) hl (P2_pos _) (Or.inl (Nat.mul_assoc _ _ _ ▸ rfl))

theorem add_plain (E M mode : Nat) (p q : Pt) (h : FOk E M) (hp : FinPt M p) (hq : FinPt M q) : addR E M mode p q = addE E M mode p q := by
  have hpM := pow_pos2 M
  obtain ⟨pn, pc, pe, pm⟩ := p
  obtain ⟨qn, qc, qe, qm⟩ := q
  unfold addR addE
  unfold FinPt at hp hq
  simp only [] at *
  rcases hp with ⟨p1, p2, p3⟩ | ⟨p1, p2, p3⟩
  · subst p1 p2 p3
    rw [if_pos rfl]
    rcases hq with ⟨q1, q2, q3⟩ | ⟨q1, q2, q3⟩
    · subst q1 q2 q3
      rw [if_pos rfl]
      cases pn <;> cases qn <;> simp
    · rw [if_neg q1, one_round E M mode qm qn qe h q2 q3]
      have z : P2 (-0) = 1 := rfl
      have hpos : 0 < qm * P2 qe := Nat.mul_pos (by omega) (P2_pos _)
      simp only [z, Nat.zero_mul, Nat.mul_one, Nat.one_mul, Nat.zero_add, Nat.sub_zero]
      rw [if_neg (show ¬ qm * P2 qe = 0 by omega), if_neg (show ¬ qm * P2 qe ≤ 0 by omega)]
      by_cases c : pn = qn
      · rw [if_pos c, c]
      · rw [if_neg c]
  · rw [if_neg p1]
    have hpp : 0 < pm * P2 pe := Nat.mul_pos (by omega) (P2_pos _)
    rcases hq with ⟨q1, q2, q3⟩ | ⟨q1, q2, q3⟩
    · subst q1 q2 q3
      rw [if_pos rfl, one_round E M mode pm pn pe h p2 p3]
      have z : P2 (-0) = 1 := rfl
      simp only [z, Nat.zero_mul, Nat.mul_one, Nat.add_zero, Nat.sub_zero, Nat.zero_le, if_true]
      rw [if_neg (show ¬ pm * P2 pe = 0 by omega)]
      by_cases c : pn = qn
      · rw [if_pos c]
      · rw [if_neg c, if_neg (show ¬ pm * P2 pe = 0 by omega)]
    · rw [if_neg q1]
      have hqp : 0 < qm * P2 qe * P2 (-pe) := Nat.mul_pos (Nat.mul_pos (by omega) (P2_pos _)) (P2_pos _)
      unfold sumR
      by_cases c : pe < qe ∨ (pe = qe ∧ pm < qm)
      · have c' : pe - 126 + (M : Int) < qe - 126 + (M : Int) ∨ (pe - 126 + (M : Int) = qe - 126 + (M : Int) ∧ pm * 2 ^ (126 - M) < qm * 2 ^ (126 - M)) := by
          rcases c with c | ⟨c1, c2⟩
          · left; omega
          · right; exact ⟨by omega, Nat.mul_lt_mul_of_pos_right c2 (pow_pos2 _)⟩
        rw [if_pos c']
        obtain ⟨s1, s2, s3⟩ := sumX_plain E M mode qm pm qn pn qe pe h q2 q3 p2 p3 (by omega) (by omega)
        have slt : pm * P2 pe * P2 (-qe) < qm * P2 qe * P2 (-pe) := by
          rcases c with c | ⟨c1, c2⟩
          · exact s2 c
          · subst c1
            exact Nat.mul_lt_mul_of_pos_right (Nat.mul_lt_mul_of_pos_right c2 (P2_pos _)) (P2_pos _)
        rw [s3]
        rw [Nat.mul_comm (P2 (-qe)) (P2 (-pe)), Nat.add_comm (qm * P2 qe * P2 (-pe))]
        by_cases cs : pn = qn
        · rw [if_pos cs.symm, if_pos cs, if_neg (by omega), cs]
        · rw [if_neg (fun a => cs a.symm), if_neg cs, if_neg (by omega), if_neg (by omega)]
      · have c' : ¬ (pe - 126 + (M : Int) < qe - 126 + (M : Int) ∨ (pe - 126 + (M : Int) = qe - 126 + (M : Int) ∧ pm * 2 ^ (126 - M) < qm * 2 ^ (126 - M))) := by
          rintro (a | ⟨a, b⟩)
          · omega
          · have := Nat.lt_of_mul_lt_mul_right b
            omega
        rw [if_neg c']
        obtain ⟨s1, s2, s3⟩ := sumX_plain E M mode pm qm pn qn pe qe h p2 p3 q2 q3 (by omega) (by omega)
        rw [s3]
        by_cases cs : pn = qn
        · rw [if_pos cs, if_pos cs, if_neg (by omega)]
        · rw [if_neg cs, if_neg cs, if_pos s1]
          by_cases ce : pm * P2 pe * P2 (-qe) = qm * P2 qe * P2 (-pe)
          · rw [if_pos ce, if_pos (by omega)]
          · rw [if_neg ce, if_neg (by omega)]

end Go.Proofs.Ygcoah
