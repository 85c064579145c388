/-
  THE WALKS OF PACKAGE exact: SqrtFlags, of what is no positive number.
-/
import Derived.Test.YgcoahTwo5
import Derived.Test.YgcoahEx6
namespace Go.Proofs.Ygcoah
open Go.RowKit

/-- What exact.SqrtFlags answers for zero, NaN, a negative number, an infinity. -/
def sqrtXZ (E M x : Nat) : Nat := if (unp E M x).cls = 4 then nanP E M else if (unp E M x).cls = 0 then cutP E M x else if negOf E M x = true then nanP E M else cutP E M x

set_option maxRecDepth 100000 in
set_option maxHeartbeats 3200000 in
theorem sqrtX_spec (E M mode x : Nat) (w : World) (h : FOk E M) (hx : x < 18446744073709551616) (hsp : (unp E M x).cls = 0 ∨ (unp E M x).cls = 4 ∨ negOf E M x = true ∨ (unp E M x).cls = 3) :
    Calls Oahg.prog 35 #[.agg #[.int .u8 E, .int .u8 M], .int .u8 mode, .int .u64 x] w fun r w' =>
      (∃ fl : Int, r = .returned (.tuple #[.int .u64 (sqrtXZ E M x), .int .u8 fl])) ∧ Below w.heap.size w w' := by
  have fx := unp_facts E M x h
  have hox := fun w' => open_any E M x w' h hx
  obtain ⟨V, hV⟩ : ∃ V, V = sqrtXZ E M x := ⟨_, rfl⟩
  rw [← hV]
  unfold sqrtXZ at hV
  unfold OpV at hox
  generalize cutP E M x = X1 at *
  generalize negOf E M x = n1 at *
  generalize opS (unp E M x) = sg1 at *
  generalize opN (unp E M x) = N1 at *
  generalize opD (unp E M x) = D1 at *
  obtain ⟨fx, -, -, -⟩ := fx
  generalize (unp E M x).cls = k1 at *
  go_enter Oahg.func35, Oahg.ntmps35
  go_wp2_with fail
  refine (okT _ _ _ h).mono ?_
  rintro e wa ⟨rfl, hba⟩
  have c0 : wa.cell? ⟨w.heap.size, 0, none⟩ = some (.int .u8 E) := cell_later hba (by simp [go_sem])
  have c1 : wa.cell? ⟨w.heap.size, 1, none⟩ = some (.int .u8 M) := cell_later hba (by simp [go_sem])
  have hBa : Below w.heap.size w wa := ((Below.refl _ _).alloc (Nat.le_refl _) _).trans (hba.mono (by simp))
  clear hba
  go_wp2_with fail
  refine (hox _).mono ?_
  rintro e wb ⟨⟨v, rfl, a1, l1, q1, a2, l2, q2, rfl, hN, hD⟩, hbb⟩
  have hBb := hBa.trans (hbb.mono hBa.size)
  have c0 := cell_later hbb c0
  have c1 := cell_later hbb c1
  clear hox
  obtain ⟨W, eW⟩ : ∃ W, W = wb.alloc (.cells #[.int .u64 X1, .bool n1, .int .i8 k1, .bool sg1, .slice a1 l1 q1, .slice a2 l2 q2] 77) := ⟨_, rfl⟩
  have hb : Below wb.heap.size wb W := by rw [eW]; exact (Below.refl _ _).alloc (Nat.le_refl _) _
  have hB := hBb.trans (hb.mono hBb.size)
  have c0 := cell_later hb c0
  have c1 := cell_later hb c1
  have hN := hN.below hb
  have hD := hD.below hb
  have x0 : W.cell? ⟨wb.heap.size, 0, none⟩ = some (.int .u64 X1) := by rw [eW]; simp [go_sem]
  have x1 : W.cell? ⟨wb.heap.size, 1, none⟩ = some (.bool n1) := by rw [eW]; simp [go_sem]
  have x2 : W.cell? ⟨wb.heap.size, 2, none⟩ = some (.int .i8 k1) := by rw [eW]; simp [go_sem]
  have x3 : W.cell? ⟨wb.heap.size, 3, none⟩ = some (.bool sg1) := by rw [eW]; simp [go_sem]
  have x4 : W.cell? ⟨wb.heap.size, 4, none⟩ = some (.slice a1 l1 q1) := by rw [eW]; simp [go_sem]
  have x5 : W.cell? ⟨wb.heap.size, 5, none⟩ = some (.slice a2 l2 q2) := by rw [eW]; simp [go_sem]
  clear hb hbb hBa hBb
  have hnan := fun w' => theNaN_any E M w' h
  have hhrd := fun w' => eheard_any E M x x w' h hx hx
  by_cases a2 : k1 = 4
  · have hV' : V = nanP E M := by rw [hV, if_pos a2]
    clear hV
    have b4 : ((k1 : Int) == 4) = true := by rw [beq_iff_eq]; omega
    clear a2
    subst eW
    go_wp2
    obtain ⟨W, eW⟩ : ∃ W, W = wb.alloc (.cells #[.int .u64 X1, .bool n1, .int .i8 k1, .bool sg1, .slice a1 l1 q1, .slice a2 l2 q2] 77) := ⟨_, rfl⟩
    rw [← eW] at c0 c1 hB
    rw [← eW]
    clear eW x0 x1 x2 x3 x4 x5 hN hD
    have d0 : ∀ x : Ext W, x.w.cell? ⟨w.heap.size, 0, none⟩ = some (.int .u8 E) := fun x => x.cell c0
    have d1 : ∀ x : Ext W, x.w.cell? ⟨w.heap.size, 1, none⟩ = some (.int .u8 M) := fun x => x.cell c1
    have hX : Nonempty (Ext W) := Ext.some _
    refine wp_region_ext (by kernel_rfl) (by kernel_rfl) ?_
    repeat (go_big_quiet_step (first | (go_at_call 52; exact Calls.ext_of (hnan _)) | (go_at_call 60; exact Calls.ext_of (hhrd _))))
    refine wpQuiet_nil ?_
    rintro _ ⟨x, rfl⟩
    have hBx : Below w.heap.size w x.w := hB.trans (x.hb.mono hB.size)
    generalize x.w = wx at *
    clear d0 d1 hX
    go_wp2
    go_ret2
    exact ⟨⟨_, by rw [hV']; rfl⟩, hBx⟩
  have b4 : ((k1 : Int) == 4) = false := by rw [beq_eq_false_iff_ne]; omega
  rw [if_neg a2] at hV
  by_cases a3 : k1 = 0
  · have hV' : V = X1 := by rw [hV, if_pos a3]
    clear hV
    have b0 : ((k1 : Int) == 0) = true := by rw [beq_iff_eq]; omega
    clear a3
    subst eW
    go_wp2
    go_ret2
    exact ⟨⟨_, by rw [hV']; rfl⟩, hB⟩
  have b0 : ((k1 : Int) == 0) = false := by rw [beq_eq_false_iff_ne]; omega
  rw [if_neg a3] at hV
  by_cases a4 : n1 = true
  · subst a4
    have hV' : V = nanP E M := by rw [hV, if_pos rfl]
    clear hV
    subst eW
    go_wp2_with fail
    refine (hnan _).mono ?_
    rintro e w1 ⟨rfl, hb⟩
    have hB1 := hB.trans (hb.mono hB.size)
    go_wp2
    go_ret2
    exact ⟨⟨_, by rw [hV']; rfl⟩, hB1⟩
  have a5 : n1 = false := by cases n1 <;> simp_all
  subst a5
  have a6 : k1 = 3 := by rcases hsp with z | z | z | z <;> first | omega | exact absurd z (by decide)
  have hV' : V = X1 := by rw [hV, if_neg (by decide)]
  clear hV
  have b3 : ((k1 : Int) == 3) = true := by rw [beq_iff_eq]; omega
  clear a6
  subst eW
  go_wp2
  go_ret2
  exact ⟨⟨_, by rw [hV']; rfl⟩, hB⟩

end Go.Proofs.Ygcoah
