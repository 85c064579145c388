/-
  THE WALKS OF PACKAGE soft: addFinite whole, AddFlags.
-/
import Derived.Test.YgcoahTwo3
import Derived.Test.YgcoahExt
import Derived.Test.YgcoahAddN
namespace Go.Proofs.Ygcoah
open Go.RowKit

/-- What soft.AddFlags answers. -/
def addS (E M mode : Nat) (p q : Pt) : Nat :=
  if p.cls = 4 ∨ q.cls = 4 then nanP E M
  else if p.cls = 3 ∧ q.cls = 3 ∧ p.neg ≠ q.neg then nanP E M
  else if p.cls = 3 then infS E M p.neg
  else if q.cls = 3 then infS E M q.neg
  else addR E M mode p q

theorem addFinite_any (E M mode k1 k2 m1 m2 : Nat) (n1 n2 : Bool) (e1 e2 : Int) (w : World) (h : FOk E M) (g1 : k1 ≠ 0 → 2 ^ M ≤ m1 ∧ m1 < 2 ^ (M + 1)) (g2 : k2 ≠ 0 → 2 ^ M ≤ m2 ∧ m2 < 2 ^ (M + 1)) (a1 : -1200 ≤ e1) (a2 : e1 ≤ 1100) (a3 : -1200 ≤ e2) (a4 : e2 ≤ 1100) (z1 : m1 < 9007199254740992) (z2 : m2 < 9007199254740992) :
    Calls Oahg.prog 81 #[.agg #[.int .u8 E, .int .u8 M], .int .u8 mode, .agg #[.bool n1, .int .i8 k1, .int .i16 e1, .int .u64 m1], .agg #[.bool n2, .int .i8 k2, .int .i16 e2, .int .u64 m2]] w fun r w' =>
      (∃ fl : Int, r = .returned (.tuple #[.int .u64 (addR E M mode ⟨n1, k1, e1, m1⟩ ⟨n2, k2, e2, m2⟩), .int .u8 fl])) ∧ Below w.heap.size w w' := by
  have hp := pow_pos2 M
  unfold addR
  simp only []
  by_cases c1 : k1 = 0
  · subst c1
    rw [if_pos rfl]
    by_cases c2 : k2 = 0
    · subst c2
      rw [if_pos rfl]
      exact addF_zz E M mode n1 n2 e1 e2 m1 m2 w h
    · rw [if_neg c2]
      have := g2 c2
      exact addF_zn E M mode k2 m2 n1 n2 e1 e2 m1 w h c2 (by omega) (by omega) (by omega) (by omega)
  · rw [if_neg c1]
    have o1 := g1 c1
    by_cases c2 : k2 = 0
    · subst c2
      rw [if_pos rfl]
      exact addF_nz E M mode k1 m1 n1 n2 e1 e2 m2 w h c1 (by omega) (by omega) (by omega) (by omega)
    · rw [if_neg c2]
      have o2 := g2 c2
      exact addF_nn E M mode k1 k2 m1 m2 n1 n2 e1 e2 w h c1 c2 o1.1 o1.2 o2.1 o2.2 a1 a2 a3 a4

set_option maxRecDepth 100000 in
set_option maxHeartbeats 6400000 in
theorem addFlags_any (E M mode x y : Nat) (w : World) (h : FOk E M) (hx : x < 18446744073709551616) (hy : y < 18446744073709551616) :
    Calls Oahg.prog 42 #[.agg #[.int .u8 E, .int .u8 M], .int .u8 mode, .int .u64 x, .int .u64 y] w fun r w' =>
      (∃ fl : Int, r = .returned (.tuple #[.int .u64 (addS E M mode (unp E M x) (unp E M y)), .int .u8 fl])) ∧ Below w.heap.size w w' := by
  have fx := unp_facts E M x h
  have fy := unp_facts E M y h
  have gx := unp_man E M x
  have gy := unp_man E M y
  have hux := fun w' => unpack_pt E M x w' h hx
  have huy := fun w' => unpack_pt E M y w' h hy
  generalize unp E M x = p at *
  generalize unp E M y = q at *
  obtain ⟨n1, k1, e1, m1⟩ := p
  obtain ⟨n2, k2, e2, m2⟩ := q
  obtain ⟨V, hV⟩ : ∃ V, V = addS E M mode ⟨n1, k1, e1, m1⟩ ⟨n2, k2, e2, m2⟩ := ⟨_, rfl⟩
  rw [← hV]
  unfold addS at hV
  simp only [] at fx fy gx gy hV
  go_enter Oahg.func42, Oahg.ntmps42
  go_wp2_with (go_at_call 18; refine (okT _ _ _ h).mono ?_; rintro e wa ⟨rfl, hba⟩)
  have c0 : wa.cell? ⟨w.heap.size, 0, none⟩ = some (.int .u8 E) := cell_later hba (by simp [go_sem])
  have c1 : wa.cell? ⟨w.heap.size, 1, none⟩ = some (.int .u8 M) := cell_later hba (by simp [go_sem])
  have hBa : Below w.heap.size w wa := ((Below.refl _ _).alloc (Nat.le_refl _) _).trans (hba.mono (by simp))
  clear hba
  refine two_region (R1 := fun _ u => u = ptV ⟨n1, k1, e1, m1⟩) (R2 := fun _ u => u = ptV ⟨n2, k2, e2, m2⟩) (by kernel_rfl) ⟨by simp⟩ (by kernel_rfl) (by kernel_rfl) (by kernel_rfl) (by kernel_rfl) (by kernel_rfl) (by kernel_rfl) (by kernel_rfl) (by kernel_rfl)
    rfl rfl c0 c1 rfl rfl call50 (lasts_eq _) (lasts_eq _) (fun w _ => hux w) (fun w _ => huy w) al63 ?_ ?_
  · rintro ev b d u ty s A w' v (rfl | rfl) hf he hu
    · exact st63 ev b d u ty s A w' _ hf he hu
    · exact st63 ev b d u ty s A w' _ hf he hu
  rintro b c v u W hBW hb1 hb2 hb3 hb4 hbc rfl rfl hhx hhy
  have hB := hBa.trans (hBW.mono hBa.size)
  have c0 := cell_later hBW c0
  have c1 := cell_later hBW c1
  obtain ⟨x0, x1, x2, x3⟩ := held63 hhx
  obtain ⟨y0, y1, y2, y3⟩ := held63 hhy
  clear hhx hhy hux huy hb1 hb2 hb3 hb4 hbc hBW hBa
  simp only [] at x0 x1 x2 x3 y0 y1 y2 y3
  unfold puts8 ptV
  have hnan := fun w' => theNaN_any E M w' h
  have hhrd := fun w' => sheard_any E M x y w' h hx hy
  have hinf := fun b w' => inf_any E M b w' h
  simp only [Act.put]
  by_cases a1 : k1 = 4
  · have hV' : V = nanP E M := by rw [hV, if_pos (Or.inl a1)]
    clear hV
    have b14 : ((k1 : Int) == 4) = true := by rw [beq_iff_eq]; omega
    go_wp2
    clear x0 x1 x2 x3 y0 y1 y2 y3
    have d0 : ∀ x : Ext W, x.w.cell? ⟨w.heap.size, 0, none⟩ = some (.int .u8 E) := fun x => x.cell c0
    have d1 : ∀ x : Ext W, x.w.cell? ⟨w.heap.size, 1, none⟩ = some (.int .u8 M) := fun x => x.cell c1
    have hX : Nonempty (Ext W) := Ext.some _
    refine wp_region_ext (by kernel_rfl) (by kernel_rfl) ?_
    repeat (go_big_quiet_step (first | (go_at_call 52; exact Calls.ext_of (hnan _)) | (go_at_call 53; exact Calls.ext_of (hhrd _))))
    refine wpQuiet_nil ?_
    rintro _ ⟨x, rfl⟩
    have hBx : Below w.heap.size w x.w := hB.trans (x.hb.mono hB.size)
    generalize x.w = wx at *
    clear d0 d1 hX
    go_wp2
    go_ret2
    exact ⟨⟨_, by rw [hV']; rfl⟩, hBx⟩
  have b14 : ((k1 : Int) == 4) = false := by rw [beq_eq_false_iff_ne]; omega
  by_cases a2 : k2 = 4
  · have hV' : V = nanP E M := by rw [hV, if_pos (Or.inr a2)]
    clear hV
    have b24 : ((k2 : Int) == 4) = true := by rw [beq_iff_eq]; omega
    go_wp2
    clear x0 x1 x2 x3 y0 y1 y2 y3
    have d0 : ∀ x : Ext W, x.w.cell? ⟨w.heap.size, 0, none⟩ = some (.int .u8 E) := fun x => x.cell c0
    have d1 : ∀ x : Ext W, x.w.cell? ⟨w.heap.size, 1, none⟩ = some (.int .u8 M) := fun x => x.cell c1
    have hX : Nonempty (Ext W) := Ext.some _
    refine wp_region_ext (by kernel_rfl) (by kernel_rfl) ?_
    repeat (go_big_quiet_step (first | (go_at_call 52; exact Calls.ext_of (hnan _)) | (go_at_call 53; exact Calls.ext_of (hhrd _))))
    refine wpQuiet_nil ?_
    rintro _ ⟨x, rfl⟩
    have hBx : Below w.heap.size w x.w := hB.trans (x.hb.mono hB.size)
    generalize x.w = wx at *
    clear d0 d1 hX
    go_wp2
    go_ret2
    exact ⟨⟨_, by rw [hV']; rfl⟩, hBx⟩
  have b24 : ((k2 : Int) == 4) = false := by rw [beq_eq_false_iff_ne]; omega
  rw [if_neg (by omega)] at hV
  by_cases a3 : k1 = 3 ∧ k2 = 3 ∧ n1 ≠ n2
  · have hV' : V = nanP E M := by rw [hV, if_pos a3]
    clear hV
    obtain ⟨a3, a4, a5⟩ := a3
    have b13 : ((k1 : Int) == 3) = true := by rw [beq_iff_eq]; omega
    have b23 : ((k2 : Int) == 3) = true := by rw [beq_iff_eq]; omega
    have nq : (!n1 == n2) = true := by cases n1 <;> cases n2 <;> simp_all
    go_wp2_with fail
    refine (hnan _).mono ?_
    rintro e w1 ⟨rfl, hb⟩
    have hB1 := hB.trans (hb.mono hB.size)
    go_wp2
    go_ret2
    exact ⟨⟨_, by rw [hV']; rfl⟩, hB1⟩
  rw [if_neg a3] at hV
  by_cases a4 : k1 = 3
  · have hV' : V = infS E M n1 := by rw [hV, if_pos a4]
    clear hV
    have b13 : ((k1 : Int) == 3) = true := by rw [beq_iff_eq]; omega
    by_cases a5 : k2 = 3
    · have nq : n1 = n2 := by
        false_or_by_contra
        exact a3 ⟨a4, a5, by assumption⟩
      subst nq
      have b23 : ((k2 : Int) == 3) = true := by rw [beq_iff_eq]; omega
      go_wp2_with fail
      refine (hinf _ _).mono ?_
      rintro e w1 ⟨rfl, hb⟩
      have hB1 := hB.trans (hb.mono hB.size)
      go_wp2
      go_ret2
      exact ⟨⟨_, by rw [hV']; rfl⟩, hB1⟩
    · have b23 : ((k2 : Int) == 3) = false := by rw [beq_eq_false_iff_ne]; omega
      go_wp2_with fail
      refine (hinf _ _).mono ?_
      rintro e w1 ⟨rfl, hb⟩
      have hB1 := hB.trans (hb.mono hB.size)
      go_wp2
      go_ret2
      exact ⟨⟨_, by rw [hV']; rfl⟩, hB1⟩
  have b13 : ((k1 : Int) == 3) = false := by rw [beq_eq_false_iff_ne]; omega
  rw [if_neg a4] at hV
  by_cases a5 : k2 = 3
  · have hV' : V = infS E M n2 := by rw [hV, if_pos a5]
    clear hV
    have b23 : ((k2 : Int) == 3) = true := by rw [beq_iff_eq]; omega
    go_wp2_with fail
    refine (hinf _ _).mono ?_
    rintro e w1 ⟨rfl, hb⟩
    have hB1 := hB.trans (hb.mono hB.size)
    go_wp2
    go_ret2
    exact ⟨⟨_, by rw [hV']; rfl⟩, hB1⟩
  have b23 : ((k2 : Int) == 3) = false := by rw [beq_eq_false_iff_ne]; omega
  rw [if_neg a5] at hV
  have hadd := fun w' => addFinite_any E M mode k1 k2 m1 m2 n1 n2 e1 e2 w' h (fun _ => gx (by omega)) (fun _ => gy (by omega)) (by omega) (by omega) (by omega) (by omega) (by omega) (by omega)
  rw [← hV] at hadd
  clear hV gx gy fx fy hnan hhrd hinf
  go_wp2_with fail
  refine (hadd _).mono ?_
  rintro e w1 ⟨⟨fl, rfl⟩, hb⟩
  have hB1 := hB.trans (hb.mono hB.size)
  go_wp2
  go_ret2
  exact ⟨⟨fl, rfl⟩, hB1⟩

end Go.Proofs.Ygcoah
