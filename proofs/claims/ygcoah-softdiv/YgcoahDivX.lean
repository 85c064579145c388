/-
  THE WALKS OF PACKAGE exact: DivFlags.
-/
import Derived.Test.YgcoahTwo5
import Derived.Test.YgcoahRnd
namespace Go.Proofs.Ygcoah
open Go.RowKit

/-- What exact.DivFlags answers. -/
def divE (E M mode x y : Nat) : Nat :=
  if (unp E M x).cls = 4 ∨ (unp E M y).cls = 4 then nanP E M
  else if ((unp E M x).cls = 3 ∧ (unp E M y).cls = 3) ∨ ((unp E M x).cls = 0 ∧ (unp E M y).cls = 0) then nanP E M
  else if (unp E M x).cls = 3 then infS E M (negOf E M x != negOf E M y)
  else if (unp E M y).cls = 0 then infS E M (negOf E M x != negOf E M y)
  else if (unp E M y).cls = 3 then sgnP E M (negOf E M x != negOf E M y)
  else roundR E M mode (negOf E M x != negOf E M y) (opN (unp E M x) * opD (unp E M y)) (opD (unp E M x) * opN (unp E M y))

theorem opN_pos (E M x : Nat) (h : (unp E M x).cls = 1 ∨ (unp E M x).cls = 2) : 0 < opN (unp E M x) := by
  have h1 := unp_man E M x h
  have h2 := pow_pos2 M
  unfold opN
  rw [if_pos (by omega)]
  exact Nat.mul_pos (by omega) (P2_pos _)

set_option maxRecDepth 100000 in
set_option maxHeartbeats 6400000 in
theorem divXFlags_any (E M mode x y : Nat) (w : World) (h : FOk E M) (hx : x < 18446744073709551616) (hy : y < 18446744073709551616) :
    Calls Oahg.prog 49 #[.agg #[.int .u8 E, .int .u8 M], .int .u8 mode, .int .u64 x, .int .u64 y] w fun r w' =>
      (∃ fl : Int, r = .returned (.tuple #[.int .u64 (divE E M mode x y), .int .u8 fl])) ∧ Below w.heap.size w w' := by
  have fx := unp_facts E M x h
  have fy := unp_facts E M y h
  have zx := op_sizes E M x h
  have zy := op_sizes E M y h
  have hox := fun w' => open_any E M x w' h hx
  have hoy := fun w' => open_any E M y w' h hy
  have py := opN_pos E M y
  have lx := lasts_op E M x
  have ly := lasts_op E M y
  have hso := st_op E M x y
  obtain ⟨V, hV⟩ : ∃ V, V = divE E M mode x y := ⟨_, rfl⟩
  rw [← hV]
  unfold divE at hV
  have hnan := fun w' => theNaN_any E M w' h
  have hhrd := fun w' => eheard_any E M x y w' h hx hy
  have hinf := fun b w' => inf_any E M b w' h
  have hzer := fun b w' => ezero_any E M b w' h
  have hrd := fun (w' : World) (a1 a2 : Option Addr) (l1 l2 c1 c2 N D : Nat) (ng : Bool) (h1 : NatV w' (.slice a1 l1 c1) N) (h2 : NatV w' (.slice a2 l2 c2) D) (s1 : bl N ≤ 20000) (s2 : bl D ≤ 20000) (h0 : 0 < D) => roundFlags_any (w := w') E M mode ng h h1 h2 s1 s2 h0
  unfold OpV at *
  generalize cutP E M x = X1 at *
  generalize cutP E M y = X2 at *
  generalize negOf E M x = n1 at *
  generalize negOf E M y = n2 at *
  generalize opS (unp E M x) = sg1 at *
  generalize opS (unp E M y) = sg2 at *
  generalize opN (unp E M x) = N1 at *
  generalize opN (unp E M y) = N2 at *
  generalize opD (unp E M x) = D1 at *
  generalize opD (unp E M y) = D2 at *
  obtain ⟨fx, -, -, -⟩ := fx
  obtain ⟨fy, -, -, -⟩ := fy
  generalize (unp E M x).cls = k1 at *
  generalize (unp E M y).cls = k2 at *
  go_enter Oahg.func49, Oahg.ntmps49
  go_wp2_with (go_at_call 18; refine (okT _ _ _ h).mono ?_; rintro e wa ⟨rfl, hba⟩)
  have c0 : wa.cell? ⟨w.heap.size, 0, none⟩ = some (.int .u8 E) := cell_later hba (by simp [go_sem])
  have c1 : wa.cell? ⟨w.heap.size, 1, none⟩ = some (.int .u8 M) := cell_later hba (by simp [go_sem])
  have hBa : Below w.heap.size w wa := ((Below.refl _ _).alloc (Nat.le_refl _) _).trans (hba.mono (by simp))
  clear hba
  refine two_region (by kernel_rfl) ⟨by simp⟩ (by kernel_rfl) (by kernel_rfl) (by kernel_rfl) (by kernel_rfl) (by kernel_rfl) (by kernel_rfl) (by kernel_rfl) (by kernel_rfl)
    rfl rfl c0 c1 rfl rfl call59 lx ly (fun w _ => hox w) (fun w _ => hoy w) al77 hso ?_
  rintro b c v u W hBW hb1 hb2 hb3 hb4 hbc ⟨ax1, l1, q1, ax2, l2, q2, rfl, hN1, hD1⟩ ⟨ax3, l3, q3, ax4, l4, q4, rfl, hN2, hD2⟩ hhx hhy
  have hB := hBa.trans (hBW.mono hBa.size)
  have c0 := cell_later hBW c0
  have c1 := cell_later hBW c1
  obtain ⟨x0, x1, x2, x3, x4, x5⟩ := held77 hhx
  obtain ⟨y0, y1, y2, y3, y4, y5⟩ := held77 hhy
  clear hhx hhy hox hoy hb1 hb2 hb3 hb4 hbc hBW hBa lx ly hso
  unfold puts8
  simp only [Act.put]
  by_cases a1 : k1 = 4
  · have hV' : V = nanP E M := by rw [hV, if_pos (Or.inl a1)]
    clear hV
    have b14 : ((k1 : Int) == 4) = true := by rw [beq_iff_eq]; omega
    go_wp2
    clear x0 x1 x2 x3 x4 x5 y0 y1 y2 y3 y4 y5 hN1 hN2 hD1 hD2 hrd
    have d0 : ∀ x : Ext W, x.w.cell? ⟨w.heap.size, 0, none⟩ = some (.int .u8 E) := fun x => x.cell c0
    have d1 : ∀ x : Ext W, x.w.cell? ⟨w.heap.size, 1, none⟩ = some (.int .u8 M) := fun x => x.cell c1
    have hX : Nonempty (Ext W) := Ext.some _
    refine wp_region_ext (by kernel_rfl) (by kernel_rfl) ?_
    repeat (go_big_quiet_step (first | (go_at_call 52; exact Calls.ext_of (hnan _)) | (go_at_call 60; exact Calls.ext_of (hhrd _))))
    refine wpQuiet_nil ?_
    rintro _ ⟨z, rfl⟩
    have hBx : Below w.heap.size w z.w := hB.trans (z.hb.mono hB.size)
    generalize z.w = wx at *
    clear d0 d1 hX
    go_wp2
    go_ret2
    exact ⟨⟨_, by rw [hV']; rfl⟩, hBx⟩
  have b14 : ((k1 : Int) == 4) = false := by rw [beq_eq_false_iff_ne]; omega
  by_cases a2 : k2 = 4
  · have hV' : V = nanP E M := by rw [hV, if_pos (Or.inr a2)]
    clear hV
    have b24 : ((k2 : Int) == 4) = true := by rw [beq_iff_eq]; omega
    go_wp2
    clear x0 x1 x2 x3 x4 x5 y0 y1 y2 y3 y4 y5 hN1 hN2 hD1 hD2 hrd
    have d0 : ∀ x : Ext W, x.w.cell? ⟨w.heap.size, 0, none⟩ = some (.int .u8 E) := fun x => x.cell c0
    have d1 : ∀ x : Ext W, x.w.cell? ⟨w.heap.size, 1, none⟩ = some (.int .u8 M) := fun x => x.cell c1
    have hX : Nonempty (Ext W) := Ext.some _
    refine wp_region_ext (by kernel_rfl) (by kernel_rfl) ?_
    repeat (go_big_quiet_step (first | (go_at_call 52; exact Calls.ext_of (hnan _)) | (go_at_call 60; exact Calls.ext_of (hhrd _))))
    refine wpQuiet_nil ?_
    rintro _ ⟨z, rfl⟩
    have hBx : Below w.heap.size w z.w := hB.trans (z.hb.mono hB.size)
    generalize z.w = wx at *
    clear d0 d1 hX
    go_wp2
    go_ret2
    exact ⟨⟨_, by rw [hV']; rfl⟩, hBx⟩
  have b24 : ((k2 : Int) == 4) = false := by rw [beq_eq_false_iff_ne]; omega
  rw [if_neg (by omega)] at hV
  by_cases a3 : k1 = 3 ∧ k2 = 3
  · have hV' : V = nanP E M := by rw [hV, if_pos (Or.inl a3)]
    clear hV
    have b13 : ((k1 : Int) == 3) = true := by rw [beq_iff_eq]; omega
    have b23 : ((k2 : Int) == 3) = true := by rw [beq_iff_eq]; omega
    clear hN1 hN2 hD1 hD2 hrd
    go_wp2_with fail
    refine (hnan _).mono ?_
    rintro e w1 ⟨rfl, hb⟩
    have hB1 := hB.trans (hb.mono hB.size)
    go_wp2
    go_ret2
    exact ⟨⟨_, by rw [hV']; rfl⟩, hB1⟩
  by_cases a4 : k1 = 0 ∧ k2 = 0
  · have hV' : V = nanP E M := by rw [hV, if_pos (Or.inr a4)]
    clear hV
    have b13 : ((k1 : Int) == 3) = false := by rw [beq_eq_false_iff_ne]; omega
    have b10 : ((k1 : Int) == 0) = true := by rw [beq_iff_eq]; omega
    have b20 : ((k2 : Int) == 0) = true := by rw [beq_iff_eq]; omega
    clear hN1 hN2 hD1 hD2 hrd
    go_wp2_with fail
    refine (hnan _).mono ?_
    rintro e w1 ⟨rfl, hb⟩
    have hB1 := hB.trans (hb.mono hB.size)
    go_wp2
    go_ret2
    exact ⟨⟨_, by rw [hV']; rfl⟩, hB1⟩
  rw [if_neg (by omega)] at hV
  by_cases a5 : k1 = 3
  · have hV' : V = infS E M (n1 != n2) := by rw [hV, if_pos a5]
    clear hV
    have b13 : ((k1 : Int) == 3) = true := by rw [beq_iff_eq]; omega
    have b10 : ((k1 : Int) == 0) = false := by rw [beq_eq_false_iff_ne]; omega
    have b23 : ((k2 : Int) == 3) = false := by rw [beq_eq_false_iff_ne]; omega
    clear hN1 hN2 hD1 hD2 hrd
    go_wp2_with fail
    refine (hinf _ _).mono ?_
    rintro e w1 ⟨rfl, hb⟩
    have hB1 := hB.trans (hb.mono hB.size)
    go_wp2
    go_ret2
    exact ⟨⟨_, by rw [hV']; rfl⟩, hB1⟩
  have b13 : ((k1 : Int) == 3) = false := by rw [beq_eq_false_iff_ne]; omega
  rw [if_neg a5] at hV
  by_cases a6 : k2 = 0
  · have hV' : V = infS E M (n1 != n2) := by rw [hV, if_pos a6]
    clear hV
    have b20 : ((k2 : Int) == 0) = true := by rw [beq_iff_eq]; omega
    have b10 : ((k1 : Int) == 0) = false := by rw [beq_eq_false_iff_ne]; omega
    clear hN1 hN2 hD1 hD2 hrd
    go_wp2_with fail
    refine (hinf _ _).mono ?_
    rintro e w1 ⟨rfl, hb⟩
    have hB1 := hB.trans (hb.mono hB.size)
    go_wp2
    go_ret2
    exact ⟨⟨_, by rw [hV']; rfl⟩, hB1⟩
  have b20 : ((k2 : Int) == 0) = false := by rw [beq_eq_false_iff_ne]; omega
  rw [if_neg a6] at hV
  by_cases a7 : k2 = 3
  · have hV' : V = sgnP E M (n1 != n2) := by rw [hV, if_pos a7]
    clear hV
    have b23 : ((k2 : Int) == 3) = true := by rw [beq_iff_eq]; omega
    have b0 : ((k1 : Int) == 0) = true ∨ ((k1 : Int) == 0) = false := by cases ((k1 : Int) == 0) <;> simp
    rcases b0 with b0 | b0
    · clear hN1 hN2 hD1 hD2 hrd
      go_wp2_with fail
      refine (hzer _ _).mono ?_
      rintro e w1 ⟨rfl, hb⟩
      have hB1 := hB.trans (hb.mono hB.size)
      go_wp2
      go_ret2
      exact ⟨⟨_, by rw [hV']; rfl⟩, hB1⟩
    · clear hN1 hN2 hD1 hD2 hrd
      go_wp2_with fail
      refine (hzer _ _).mono ?_
      rintro e w1 ⟨rfl, hb⟩
      have hB1 := hB.trans (hb.mono hB.size)
      go_wp2
      go_ret2
      exact ⟨⟨_, by rw [hV']; rfl⟩, hB1⟩
  have b23 : ((k2 : Int) == 3) = false := by rw [beq_eq_false_iff_ne]; omega
  rw [if_neg a7] at hV
  obtain ⟨zx1, zx2, zx3⟩ := zx
  obtain ⟨zy1, zy2, zy3⟩ := zy
  have sN1 : Small N1 := Nat.le_trans zx1 (by decide)
  have sD1 : Small D1 := Nat.le_trans zx2 (by decide)
  have sN2 : Small N2 := Nat.le_trans zy1 (by decide)
  have sD2 : Small D2 := Nat.le_trans zy2 (by decide)
  have bNN := bl_mul_le N1 D2
  have bDD := bl_mul_le D1 N2
  have hDD : 0 < D1 * N2 := Nat.mul_pos zx3 (py (by omega))
  obtain ⟨NN, eNN⟩ : ∃ NN, N1 * D2 = NN := ⟨_, rfl⟩
  obtain ⟨DD, eDD⟩ : ∃ DD, D1 * N2 = DD := ⟨_, rfl⟩
  have hrd := fun (w' : World) (a1 a2 : Option Addr) (l1 l2 c1 c2 : Nat) (h1 : NatV w' (.slice a1 l1 c1) NN) (h2 : NatV w' (.slice a2 l2 c2) DD) => hrd w' a1 a2 l1 l2 c1 c2 NN DD (n1 != n2) h1 h2 (by rw [← eNN]; omega) (by rw [← eDD]; omega) (by rw [← eDD]; exact hDD)
  rw [eNN, eDD] at hV
  rw [← hV] at hrd
  have hmu := fun (w' : World) (a1 a2 : Option Addr) (l1 l2 c1 c2 X Y Z : Nat) (h1 : NatV W (.slice a1 l1 c1) X) (h2 : NatV W (.slice a2 l2 c2) Y) (s1 : Small X) (s2 : Small Y) (hz : X * Y = Z) (hb : Below W.heap.size W w') => (mulN (h1.below hb) (h2.below hb) s1 s2).mono (R' := fun e w'' => (∃ v, e = .returned v ∧ NatV w'' v Z) ∧ Below w'.heap.size w' w'') fun _ _ hh => by rw [hz] at hh; exact hh
  clear hV bNN bDD hDD zx1 zx2 zx3 zy1 zy2 zy3 hnan hhrd hinf hzer
  have b0 : ((k1 : Int) == 0) = true ∨ ((k1 : Int) == 0) = false := by cases ((k1 : Int) == 0) <;> simp
  rcases b0 with b0 | b0
  · go_wp2
    go_region_held3 (fun w' => Below W.heap.size W w' ∧ w'.cell? ⟨w.heap.size, 0, none⟩ = some (.int .u8 E) ∧ w'.cell? ⟨w.heap.size, 1, none⟩ = some (.int .u8 M) ∧ w'.cell? ⟨b, 4, none⟩ = some (.slice ax1 l1 q1) ∧ w'.cell? ⟨b, 5, none⟩ = some (.slice ax2 l2 q2) ∧ w'.cell? ⟨c, 4, none⟩ = some (.slice ax3 l3 q3) ∧ w'.cell? ⟨c, 5, none⟩ = some (.slice ax4 l4 q4))
      (first
        | (exact ⟨(Below.refl _ _).drew, c0, c1, x4, x5, y4, y5⟩)
        | (have hX := below_step (Below.refl W.heap.size W).drew hbx; exact ⟨hX, cell_later hX c0, cell_later hX c1, cell_later hX x4, cell_later hX x5, cell_later hX y4, cell_later hX y5⟩)
        | (obtain ⟨hX0, -⟩ := ‹Below W.heap.size W _ ∧ _›; have hX := below_step hX0 hbx; exact ⟨hX, cell_later hX c0, cell_later hX c1, cell_later hX x4, cell_later hX x5, cell_later hX y4, cell_later hX y5⟩))
      (first
        | (go_at_call 40; refine (hmu _ _ _ _ _ _ _ _ _ _ (by assumption) (by assumption) (by assumption) (by assumption) (by assumption) (by first | exact (‹Below W.heap.size W _ ∧ _›).1 | exact (Below.refl _ _).drew)).mono ?_; rintro e wx ⟨⟨v, rfl, hv⟩, hbx⟩; obtain ⟨aa, ll, cc, rfl⟩ := hv.form; try (have hold := NatV.below ‹NatV _ _ NN› hbx))
        | (go_at_call 88; refine (hrd _ _ _ _ _ _ _ (by assumption) (by assumption)).mono ?_; rintro e wx ⟨⟨fl, rfl⟩, hbx⟩))
    all_goals
      obtain ⟨hX0, -⟩ := ‹Below W.heap.size W _ ∧ _›
      go_wp2
      go_ret2
      exact ⟨⟨fl, rfl⟩, hB.trans (hX0.mono hB.size)⟩
  · go_wp2
    go_region_held3 (fun w' => Below W.heap.size W w' ∧ w'.cell? ⟨w.heap.size, 0, none⟩ = some (.int .u8 E) ∧ w'.cell? ⟨w.heap.size, 1, none⟩ = some (.int .u8 M) ∧ w'.cell? ⟨b, 4, none⟩ = some (.slice ax1 l1 q1) ∧ w'.cell? ⟨b, 5, none⟩ = some (.slice ax2 l2 q2) ∧ w'.cell? ⟨c, 4, none⟩ = some (.slice ax3 l3 q3) ∧ w'.cell? ⟨c, 5, none⟩ = some (.slice ax4 l4 q4))
      (first
        | (exact ⟨(Below.refl _ _).drew, c0, c1, x4, x5, y4, y5⟩)
        | (have hX := below_step (Below.refl W.heap.size W).drew hbx; exact ⟨hX, cell_later hX c0, cell_later hX c1, cell_later hX x4, cell_later hX x5, cell_later hX y4, cell_later hX y5⟩)
        | (obtain ⟨hX0, -⟩ := ‹Below W.heap.size W _ ∧ _›; have hX := below_step hX0 hbx; exact ⟨hX, cell_later hX c0, cell_later hX c1, cell_later hX x4, cell_later hX x5, cell_later hX y4, cell_later hX y5⟩))
      (first
        | (go_at_call 40; refine (hmu _ _ _ _ _ _ _ _ _ _ (by assumption) (by assumption) (by assumption) (by assumption) (by assumption) (by first | exact (‹Below W.heap.size W _ ∧ _›).1 | exact (Below.refl _ _).drew)).mono ?_; rintro e wx ⟨⟨v, rfl, hv⟩, hbx⟩; obtain ⟨aa, ll, cc, rfl⟩ := hv.form; try (have hold := NatV.below ‹NatV _ _ NN› hbx))
        | (go_at_call 88; refine (hrd _ _ _ _ _ _ _ (by assumption) (by assumption)).mono ?_; rintro e wx ⟨⟨fl, rfl⟩, hbx⟩))
    all_goals
      obtain ⟨hX0, -⟩ := ‹Below W.heap.size W _ ∧ _›
      go_wp2
      go_ret2
      exact ⟨⟨fl, rfl⟩, hB.trans (hX0.mono hB.size)⟩

end Go.Proofs.Ygcoah
