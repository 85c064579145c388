/-
  THE WALKS OF PACKAGE exact: AddFlags.
-/
import Derived.Test.YgcoahTwo5
import Derived.Test.YgcoahRnd
import Derived.Test.YgcoahAdR1
import Derived.Test.YgcoahAdR2
namespace Go.Proofs.Ygcoah
open Go.RowKit
attribute [local go_sem] eqNil neNil

/-- The sum of two fractions over one denominator, rounded. -/
def sumE (E M mode : Nat) (n1 n2 : Bool) (X Y D : Nat) : Nat :=
  if n1 = n2 then
    if X + Y = 0 then sgnP E M n1 else roundR E M mode n1 (X + Y) D
  else if Y ≤ X then
    if X - Y = 0 then sgnP E M (decide (mode = 4)) else roundR E M mode n1 (X - Y) D
  else roundR E M mode n2 (Y - X) D

/-- What exact.AddFlags answers. -/
def addX (E M mode x y : Nat) : Nat :=
  if (unp E M x).cls = 4 ∨ (unp E M y).cls = 4 then nanP E M
  else if (unp E M x).cls = 3 ∧ (unp E M y).cls = 3 ∧ negOf E M x ≠ negOf E M y then nanP E M
  else if (unp E M x).cls = 3 then cutP E M x
  else if (unp E M y).cls = 3 then cutP E M y
  else sumE E M mode (negOf E M x) (negOf E M y) (opN (unp E M x) * opD (unp E M y)) (opN (unp E M y) * opD (unp E M x)) (opD (unp E M x) * opD (unp E M y))

theorem opS_neg (E M x : Nat) (h : (unp E M x).cls ≤ 2) : opS (unp E M x) = negOf E M x := by
  unfold opS
  rw [if_pos h, unp_neg E M x (by omega)]

set_option maxRecDepth 100000 in
set_option maxHeartbeats 6400000 in
theorem addXFlags_any (E M mode x y : Nat) (w : World) (h : FOk E M) (hx : x < 18446744073709551616) (hy : y < 18446744073709551616) :
    Calls Oahg.prog 46 #[.agg #[.int .u8 E, .int .u8 M], .int .u8 mode, .int .u64 x, .int .u64 y] w fun r w' =>
      (∃ fl : Int, r = .returned (.tuple #[.int .u64 (addX E M mode x y), .int .u8 fl])) ∧ Below w.heap.size w w' := by
  have fx := unp_facts E M x h
  have fy := unp_facts E M y h
  have zx := op_sizes E M x h
  have zy := op_sizes E M y h
  have hox := fun w' => open_any E M x w' h hx
  have hoy := fun w' => open_any E M y w' h hy
  have sx := opS_neg E M x
  have sy := opS_neg E M y
  have lx := lasts_op E M x
  have ly := lasts_op E M y
  have hso := st_op E M x y
  obtain ⟨V, hV⟩ : ∃ V, V = addX E M mode x y := ⟨_, rfl⟩
  rw [← hV]
  unfold addX at hV
  have hnan := fun w' => theNaN_any E M w' h
  have hhrd := fun w' => eheard_any E M x y w' h hx hy
  have hzer := fun b w' => ezero_any E M b w' h
  have hrd := fun (w' : World) (a1 a2 : Option Addr) (l1 l2 c1 c2 N D : Nat) (ng : Bool) (h1 : NatV w' (.slice a1 l1 c1) N) (h2 : NatV w' (.slice a2 l2 c2) D) (s1 : bl N ≤ 20000) (s2 : bl D ≤ 20000) (h0 : 0 < D) => roundFlags_any (w := w') E M mode ng h h1 h2 s1 s2 h0
  unfold OpV at *
  generalize cutP E M x = X1 at *
  generalize cutP E M y = X2 at *
  generalize negOf E M x = n1 at *
  generalize negOf E M y = n2 at *
  generalize opS (unp E M x) = sg1 at *
  generalize opS (unp E M y) = sg2 at *
  generalize opN (unp E M x) = N1 at *
  generalize opN (unp E M y) = N2 at *
  generalize opD (unp E M x) = D1 at *
  generalize opD (unp E M y) = D2 at *
  obtain ⟨fx, -, -, -⟩ := fx
  obtain ⟨fy, -, -, -⟩ := fy
  generalize (unp E M x).cls = k1 at *
  generalize (unp E M y).cls = k2 at *
  go_enter Oahg.func46, Oahg.ntmps46
  go_wp2_with (go_at_call 18; refine (okT _ _ _ h).mono ?_; rintro e wa ⟨rfl, hba⟩)
  have c0 : wa.cell? ⟨w.heap.size, 0, none⟩ = some (.int .u8 E) := cell_later hba (by simp [go_sem])
  have c1 : wa.cell? ⟨w.heap.size, 1, none⟩ = some (.int .u8 M) := cell_later hba (by simp [go_sem])
  have hBa : Below w.heap.size w wa := ((Below.refl _ _).alloc (Nat.le_refl _) _).trans (hba.mono (by simp))
  clear hba
  refine two_region (by kernel_rfl) ⟨by simp⟩ (by kernel_rfl) (by kernel_rfl) (by kernel_rfl) (by kernel_rfl) (by kernel_rfl) (by kernel_rfl) (by kernel_rfl) (by kernel_rfl)
    rfl rfl c0 c1 rfl rfl call59 lx ly (fun w _ => hox w) (fun w _ => hoy w) al77 hso ?_
  rintro b c v u W hBW hb1 hb2 hb3 hb4 hbc ⟨ax1, l1, q1, ax2, l2, q2, rfl, hN1, hD1⟩ ⟨ax3, l3, q3, ax4, l4, q4, rfl, hN2, hD2⟩ hhx hhy
  have hB := hBa.trans (hBW.mono hBa.size)
  have c0 := cell_later hBW c0
  have c1 := cell_later hBW c1
  obtain ⟨x0, x1, x2, x3, x4, x5⟩ := held77 hhx
  obtain ⟨y0, y1, y2, y3, y4, y5⟩ := held77 hhy
  clear hhx hhy hox hoy hb1 hb2 hb3 hb4 hbc hBW hBa lx ly hso
  unfold puts8
  simp only [Act.put]
  by_cases a1 : k1 = 4
  · have hV' : V = nanP E M := by rw [hV, if_pos (Or.inl a1)]
    clear hV
    have b14 : ((k1 : Int) == 4) = true := by rw [beq_iff_eq]; omega
    go_wp2
    clear x0 x1 x2 x3 x4 x5 y0 y1 y2 y3 y4 y5 hN1 hN2 hD1 hD2 hrd
    have d0 : ∀ x : Ext W, x.w.cell? ⟨w.heap.size, 0, none⟩ = some (.int .u8 E) := fun x => x.cell c0
    have d1 : ∀ x : Ext W, x.w.cell? ⟨w.heap.size, 1, none⟩ = some (.int .u8 M) := fun x => x.cell c1
    have hX : Nonempty (Ext W) := Ext.some _
    refine wp_region_ext (by kernel_rfl) (by kernel_rfl) ?_
    repeat (go_big_quiet_step (first | (go_at_call 52; exact Calls.ext_of (hnan _)) | (go_at_call 60; exact Calls.ext_of (hhrd _))))
    refine wpQuiet_nil ?_
    rintro _ ⟨z, rfl⟩
    have hBx : Below w.heap.size w z.w := hB.trans (z.hb.mono hB.size)
    generalize z.w = wx at *
    clear d0 d1 hX
    go_wp2
    go_ret2
    exact ⟨⟨_, by rw [hV']; rfl⟩, hBx⟩
  have b14 : ((k1 : Int) == 4) = false := by rw [beq_eq_false_iff_ne]; omega
  by_cases a2 : k2 = 4
  · have hV' : V = nanP E M := by rw [hV, if_pos (Or.inr a2)]
    clear hV
    have b24 : ((k2 : Int) == 4) = true := by rw [beq_iff_eq]; omega
    go_wp2
    clear x0 x1 x2 x3 x4 x5 y0 y1 y2 y3 y4 y5 hN1 hN2 hD1 hD2 hrd
    have d0 : ∀ x : Ext W, x.w.cell? ⟨w.heap.size, 0, none⟩ = some (.int .u8 E) := fun x => x.cell c0
    have d1 : ∀ x : Ext W, x.w.cell? ⟨w.heap.size, 1, none⟩ = some (.int .u8 M) := fun x => x.cell c1
    have hX : Nonempty (Ext W) := Ext.some _
    refine wp_region_ext (by kernel_rfl) (by kernel_rfl) ?_
    repeat (go_big_quiet_step (first | (go_at_call 52; exact Calls.ext_of (hnan _)) | (go_at_call 60; exact Calls.ext_of (hhrd _))))
    refine wpQuiet_nil ?_
    rintro _ ⟨z, rfl⟩
    have hBx : Below w.heap.size w z.w := hB.trans (z.hb.mono hB.size)
    generalize z.w = wx at *
    clear d0 d1 hX
    go_wp2
    go_ret2
    exact ⟨⟨_, by rw [hV']; rfl⟩, hBx⟩
  have b24 : ((k2 : Int) == 4) = false := by rw [beq_eq_false_iff_ne]; omega
  rw [if_neg (by omega)] at hV
  by_cases a3 : k1 = 3 ∧ k2 = 3 ∧ n1 ≠ n2
  · have hV' : V = nanP E M := by rw [hV, if_pos a3]
    clear hV
    obtain ⟨a3, a4, a5⟩ := a3
    have b13 : ((k1 : Int) == 3) = true := by rw [beq_iff_eq]; omega
    have b23 : ((k2 : Int) == 3) = true := by rw [beq_iff_eq]; omega
    have nq : (!n1 == n2) = true := by cases n1 <;> cases n2 <;> simp_all
    clear hN1 hN2 hD1 hD2 hrd
    go_wp2_with fail
    refine (hnan _).mono ?_
    rintro e w1 ⟨rfl, hb⟩
    have hB1 := hB.trans (hb.mono hB.size)
    go_wp2
    go_ret2
    exact ⟨⟨_, by rw [hV']; rfl⟩, hB1⟩
  rw [if_neg a3] at hV
  by_cases a4 : k1 = 3
  · have hV' : V = X1 := by rw [hV, if_pos a4]
    clear hV
    have b13 : ((k1 : Int) == 3) = true := by rw [beq_iff_eq]; omega
    by_cases a5 : k2 = 3
    · have nq : n1 = n2 := by
        false_or_by_contra
        exact a3 ⟨a4, a5, by assumption⟩
      subst nq
      have b23 : ((k2 : Int) == 3) = true := by rw [beq_iff_eq]; omega
      clear hN1 hN2 hD1 hD2 hrd
      go_wp2
      go_ret2
      exact ⟨⟨_, by rw [hV']; rfl⟩, hB⟩
    · have b23 : ((k2 : Int) == 3) = false := by rw [beq_eq_false_iff_ne]; omega
      clear hN1 hN2 hD1 hD2 hrd
      go_wp2
      go_ret2
      exact ⟨⟨_, by rw [hV']; rfl⟩, hB⟩
  have b13 : ((k1 : Int) == 3) = false := by rw [beq_eq_false_iff_ne]; omega
  rw [if_neg a4] at hV
  by_cases a5 : k2 = 3
  · have hV' : V = X2 := by rw [hV, if_pos a5]
    clear hV
    have b23 : ((k2 : Int) == 3) = true := by rw [beq_iff_eq]; omega
    clear hN1 hN2 hD1 hD2 hrd
    go_wp2
    go_ret2
    exact ⟨⟨_, by rw [hV']; rfl⟩, hB⟩
  have b23 : ((k2 : Int) == 3) = false := by rw [beq_eq_false_iff_ne]; omega
  rw [if_neg a5] at hV
  have es1 := (sx (by omega)).symm
  have es2 := (sy (by omega)).symm
  subst es1
  subst es2
  obtain ⟨zx1, zx2, zx3⟩ := zx
  obtain ⟨zy1, zy2, zy3⟩ := zy
  have bX := bl_mul_le N1 D2
  have bY := bl_mul_le N2 D1
  have bD := bl_mul_le D1 D2
  have pD : 0 < D1 * D2 := Nat.mul_pos zx3 zy3
  have bS := bl_add_le (N1 * D2) (N2 * D1) 2600 (by omega) (by omega)
  have bU : bl (N1 * D2 - N2 * D1) ≤ 2600 := Nat.le_trans (bl_mono (Nat.sub_le _ _)) (by omega)
  have bV : bl (N2 * D1 - N1 * D2) ≤ 2600 := Nat.le_trans (bl_mono (Nat.sub_le _ _)) (by omega)
  unfold sumE at hV
  by_cases cn : n1 = n2
  · subst cn
    rw [if_pos rfl] at hV
    have had := addRat_eq n1 hN1 hD1 hN2 hD2 (by omega) (by omega) (by omega) (by omega)
    clear hN1 hN2 hD1 hD2
    go_wp2_with fail
    refine had.mono ?_
    rintro e w1 ⟨⟨v, rfl, a5, l5, c5, a6, l6, c6, rfl, hv5, hv6⟩, hb⟩
    have hB1 := hB.trans (hb.mono hB.size)
    have c0 := cell_later hb c0
    have c1 := cell_later hb c1
    have x1 := cell_later hb x1
    have y1 := cell_later hb y1
    clear hb had x0 x2 x3 x4 x5 y0 y2 y3 y4 y5
    obtain ⟨W2, eW2⟩ : ∃ W2, W2 = w1.alloc (.cells #[.bool n1, .slice a5 l5 c5, .slice a6 l6 c6] 75) := ⟨_, rfl⟩
    have hb : Below w1.heap.size w1 W2 := by rw [eW2]; exact (Below.refl _ _).alloc (Nat.le_refl _) _
    have hB2 := hB1.trans (hb.mono hB1.size)
    have c0 := cell_later hb c0
    have c1 := cell_later hb c1
    have x1 := cell_later hb x1
    have y1 := cell_later hb y1
    have hv5 := hv5.below hb
    have hv6 := hv6.below hb
    have u0 : W2.cell? ⟨w1.heap.size, 0, none⟩ = some (.bool n1) := by rw [eW2]; simp [go_sem]
    have u1 : W2.cell? ⟨w1.heap.size, 1, none⟩ = some (.slice a5 l5 c5) := by rw [eW2]; simp [go_sem]
    have u2 : W2.cell? ⟨w1.heap.size, 2, none⟩ = some (.slice a6 l6 c6) := by rw [eW2]; simp [go_sem]
    clear hb
    subst eW2
    have nq : (n1 == n1) = true := by simp
    by_cases hz : N1 * D2 + N2 * D1 = 0
    · rw [if_pos hz] at hV
      have hnn : a5.isNone = true := by rw [hv5.isNone]; exact decide_eq_true hz
      go_wp2_with fail
      refine (hzer _ _).mono ?_
      rintro e w3 ⟨rfl, hb⟩
      have hB3 := hB2.trans (hb.mono hB2.size)
      go_wp2
      go_ret2
      exact ⟨⟨_, by rw [hV]; rfl⟩, hB3⟩
    · rw [if_neg hz] at hV
      have hnn : a5.isNone = false := by rw [hv5.isNone]; exact decide_eq_false hz
      have hr := hrd _ _ _ _ _ _ _ _ _ n1 hv5 hv6 (by omega) (by omega) pD
      rw [← hV] at hr
      clear hrd hv5 hv6
      go_wp2_with fail
      refine hr.mono ?_
      rintro e w3 ⟨⟨fl, rfl⟩, hb⟩
      have hB3 := hB2.trans (hb.mono hB2.size)
      go_wp2
      go_ret2
      exact ⟨⟨fl, by rw [hV]; rfl⟩, hB3⟩
  rw [if_neg cn] at hV
  have nq : (n1 == n2) = false := by cases n1 <;> cases n2 <;> simp_all
  by_cases cl : N2 * D1 ≤ N1 * D2
  · rw [if_pos cl] at hV
    have had := addRat_ge n1 n2 hN1 hD1 hN2 hD2 (by omega) (by omega) (by omega) (by omega) cn cl
    clear hN1 hN2 hD1 hD2
    go_wp2_with fail
    refine had.mono ?_
    rintro e w1 ⟨⟨v, rfl, a5, l5, c5, a6, l6, c6, rfl, hv5, hv6⟩, hb⟩
    have hB1 := hB.trans (hb.mono hB.size)
    have c0 := cell_later hb c0
    have c1 := cell_later hb c1
    have x1 := cell_later hb x1
    have y1 := cell_later hb y1
    clear hb had x0 x2 x3 x4 x5 y0 y2 y3 y4 y5
    obtain ⟨W2, eW2⟩ : ∃ W2, W2 = w1.alloc (.cells #[.bool n1, .slice a5 l5 c5, .slice a6 l6 c6] 75) := ⟨_, rfl⟩
    have hb : Below w1.heap.size w1 W2 := by rw [eW2]; exact (Below.refl _ _).alloc (Nat.le_refl _) _
    have hB2 := hB1.trans (hb.mono hB1.size)
    have c0 := cell_later hb c0
    have c1 := cell_later hb c1
    have x1 := cell_later hb x1
    have y1 := cell_later hb y1
    have hv5 := hv5.below hb
    have hv6 := hv6.below hb
    have u0 : W2.cell? ⟨w1.heap.size, 0, none⟩ = some (.bool n1) := by rw [eW2]; simp [go_sem]
    have u1 : W2.cell? ⟨w1.heap.size, 1, none⟩ = some (.slice a5 l5 c5) := by rw [eW2]; simp [go_sem]
    have u2 : W2.cell? ⟨w1.heap.size, 2, none⟩ = some (.slice a6 l6 c6) := by rw [eW2]; simp [go_sem]
    clear hb
    subst eW2
    by_cases hz : N1 * D2 - N2 * D1 = 0
    · rw [if_pos hz] at hV
      by_cases cm : mode = 4
      · subst cm
        have e4 : ((4 : Nat) : Int) = 4 := rfl
        rw [e4]
        rw [show decide (4 = 4) = true by decide] at hV
        have hnn : a5.isNone = true := by rw [hv5.isNone]; exact decide_eq_true hz
        go_wp2_with fail
        refine (hzer true _).mono ?_
        rintro e w3 ⟨rfl, hb⟩
        have hB3 := hB2.trans (hb.mono hB2.size)
        go_wp2
        go_ret2
        exact ⟨⟨_, by rw [hV]; rfl⟩, hB3⟩
      · have b4 : ((mode : Int) == 4) = false := by rw [beq_eq_false_iff_ne]; omega
        rw [decide_eq_false cm] at hV
        have hnn : a5.isNone = true := by rw [hv5.isNone]; exact decide_eq_true hz
        go_wp2_with fail
        refine (hzer false _).mono ?_
        rintro e w3 ⟨rfl, hb⟩
        have hB3 := hB2.trans (hb.mono hB2.size)
        go_wp2
        go_ret2
        exact ⟨⟨_, by rw [hV]; rfl⟩, hB3⟩
    · rw [if_neg hz] at hV
      have hnn : a5.isNone = false := by rw [hv5.isNone]; exact decide_eq_false hz
      have hr := hrd _ _ _ _ _ _ _ _ _ n1 hv5 hv6 (by omega) (by omega) pD
      rw [← hV] at hr
      clear hrd hv5 hv6
      go_wp2_with fail
      refine hr.mono ?_
      rintro e w3 ⟨⟨fl, rfl⟩, hb⟩
      have hB3 := hB2.trans (hb.mono hB2.size)
      go_wp2
      go_ret2
      exact ⟨⟨fl, by rw [hV]; rfl⟩, hB3⟩
  · rw [if_neg cl] at hV
    have had := addRat_lt n1 n2 hN1 hD1 hN2 hD2 (by omega) (by omega) (by omega) (by omega) cn (by omega)
    clear hN1 hN2 hD1 hD2
    go_wp2_with fail
    refine had.mono ?_
    rintro e w1 ⟨⟨v, rfl, a5, l5, c5, a6, l6, c6, rfl, hv5, hv6⟩, hb⟩
    have hB1 := hB.trans (hb.mono hB.size)
    have c0 := cell_later hb c0
    have c1 := cell_later hb c1
    have x1 := cell_later hb x1
    have y1 := cell_later hb y1
    clear hb had x0 x2 x3 x4 x5 y0 y2 y3 y4 y5
    obtain ⟨W2, eW2⟩ : ∃ W2, W2 = w1.alloc (.cells #[.bool n2, .slice a5 l5 c5, .slice a6 l6 c6] 75) := ⟨_, rfl⟩
    have hb : Below w1.heap.size w1 W2 := by rw [eW2]; exact (Below.refl _ _).alloc (Nat.le_refl _) _
    have hB2 := hB1.trans (hb.mono hB1.size)
    have c0 := cell_later hb c0
    have c1 := cell_later hb c1
    have x1 := cell_later hb x1
    have y1 := cell_later hb y1
    have hv5 := hv5.below hb
    have hv6 := hv6.below hb
    have u0 : W2.cell? ⟨w1.heap.size, 0, none⟩ = some (.bool n2) := by rw [eW2]; simp [go_sem]
    have u1 : W2.cell? ⟨w1.heap.size, 1, none⟩ = some (.slice a5 l5 c5) := by rw [eW2]; simp [go_sem]
    have u2 : W2.cell? ⟨w1.heap.size, 2, none⟩ = some (.slice a6 l6 c6) := by rw [eW2]; simp [go_sem]
    clear hb
    subst eW2
    have hz : ¬ N2 * D1 - N1 * D2 = 0 := by omega
    have hnn : a5.isNone = false := by rw [hv5.isNone]; exact decide_eq_false hz
    have hr := hrd _ _ _ _ _ _ _ _ _ n2 hv5 hv6 (by omega) (by omega) pD
    rw [← hV] at hr
    clear hrd hv5 hv6
    go_wp2_with fail
    refine hr.mono ?_
    rintro e w3 ⟨⟨fl, rfl⟩, hb⟩
    have hB3 := hB2.trans (hb.mono hB2.size)
    go_wp2
    go_ret2
    exact ⟨⟨fl, by rw [hV]; rfl⟩, hB3⟩

end Go.Proofs.Ygcoah
