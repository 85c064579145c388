/-
  THE WALKS OF PACKAGE soft: SqrtFlags, of a number.
-/
import Derived.Test.YgcoahSqS
namespace Go.Proofs.Ygcoah
open Go.RowKit

set_option maxRecDepth 100000 in
set_option maxHeartbeats 3200000 in
theorem sqrt_num (E M mode x : Nat) (s : Nat) (w : World) (h : FOk E M) (hx : x < 18446744073709551616) (hc : (unp E M x).cls = 1 ∨ (unp E M x).cls = 2) (hn : (unp E M x).neg = false) (hs : IsSqrt (sqV M (unp E M x)) s) :
    Calls Oahg.prog 34 #[.agg #[.int .u8 E, .int .u8 M], .int .u8 mode, .int .u64 x] w fun r w' =>
      (∃ fl : Int, r = .returned (.tuple #[.int .u64 (softR E M mode false (sqU M (unp E M x)) (if s * s = sqV M (unp E M x) then s else s ||| 1)), .int .u8 fl])) ∧ Below w.heap.size w w' := by
  have fx := unp_facts E M x h
  have gx := unp_man E M x
  have hux := fun w' => unpack_pt E M x w' h hx
  obtain ⟨V, hV⟩ : ∃ V, V = softR E M mode false (sqU M (unp E M x)) (if s * s = sqV M (unp E M x) then s else s ||| 1) := ⟨_, rfl⟩
  rw [← hV]
  generalize unp E M x = p at *
  obtain ⟨n1, k1, e1, m1⟩ := p
  unfold ptV at hux
  simp only [] at fx gx hux hV hc hn hs
  go_enter Oahg.func34, Oahg.ntmps34
  go_wp2_with fail
  refine (okT _ _ _ h).mono ?_
  rintro e wa ⟨rfl, hba⟩
  have c0 : wa.cell? ⟨w.heap.size, 0, none⟩ = some (.int .u8 E) := cell_later hba (by simp [go_sem])
  have c1 : wa.cell? ⟨w.heap.size, 1, none⟩ = some (.int .u8 M) := cell_later hba (by simp [go_sem])
  have hBa : Below w.heap.size w wa := ((Below.refl _ _).alloc (Nat.le_refl _) _).trans (hba.mono (by simp))
  clear hba
  go_wp2_with fail
  refine (hux _).mono ?_
  rintro e wb ⟨⟨v, rfl, rfl⟩, hbb⟩
  have hBb := hBa.trans (hbb.mono hBa.size)
  have c0 := cell_later hbb c0
  have c1 := cell_later hbb c1
  clear hux
  obtain ⟨W, eW⟩ : ∃ W, W = wb.alloc (.cells #[.bool n1, .int .i8 k1, .int .i16 e1, .int .u64 m1] 63) := ⟨_, rfl⟩
  have hb : Below wb.heap.size wb W := by rw [eW]; exact (Below.refl _ _).alloc (Nat.le_refl _) _
  have hB := hBb.trans (hb.mono hBb.size)
  have c0 := cell_later hb c0
  have c1 := cell_later hb c1
  have x0 : W.cell? ⟨wb.heap.size, 0, none⟩ = some (.bool n1) := by rw [eW]; simp [go_sem]
  have x1 : W.cell? ⟨wb.heap.size, 1, none⟩ = some (.int .i8 k1) := by rw [eW]; simp [go_sem]
  have x2 : W.cell? ⟨wb.heap.size, 2, none⟩ = some (.int .i16 e1) := by rw [eW]; simp [go_sem]
  have x3 : W.cell? ⟨wb.heap.size, 3, none⟩ = some (.int .u64 m1) := by rw [eW]; simp [go_sem]
  clear hb hbb hBa hBb
  subst hn
  replace gx := gx hc
  have hM : M ≤ 52 := h.2.2.2
  have hM2 : 2 ≤ M := h.2.2.1
  obtain ⟨r1, r2, r3⟩ := top_range M m1 hM gx.1 gx.2
  have ht1 := fun w' => top_any E M k1 m1 false e1 w' h gx.2 (by omega) (by omega)
  have b0 : ((k1 : Int) == 0) = false := by rw [beq_eq_false_iff_ne]; omega
  have b4 : ((k1 : Int) == 4) = false := by rw [beq_eq_false_iff_ne]; omega
  have b3 : ((k1 : Int) == 3) = false := by rw [beq_eq_false_iff_ne]; omega
  unfold sqV at hV hs
  unfold sqU at hV
  simp only [] at hV hs
  have er1 : -1300 ≤ e1 - 63 + (M : Int) := by omega
  have er2 : e1 - 63 + (M : Int) ≤ 1200 := by omega
  generalize m1 * 2 ^ (63 - M) = X at *
  generalize e1 - 63 + (M : Int) = ea at *
  have hand := i16_and1 ea
  have sl : s < 18446744073709551616 := by
    have h1 := hs.1
    rcases Nat.lt_or_ge s 18446744073709551616 with z | z
    · exact z
    · have h2 : 18446744073709551616 * 18446744073709551616 ≤ s * s := Nat.mul_le_mul z z
      split at h1 <;> omega
  have hor : bits .or .u64 (s : Int) 1 = ((s ||| 1 : Nat) : Int) := u64_or_nat s 1 sl (by decide)
  have hor2 : (s ||| 1) < 18446744073709551616 ∧ 0 < (s ||| 1) := by rw [or_one]; omega
  by_cases ce : ea % 2 = 0
  · rw [if_pos ce, if_pos ce] at hV
    rw [if_pos ce] at hs
    have z1 : hiW (X * 18446744073709551616) = X := by unfold hiW; omega
    have z2 : loW (X * 18446744073709551616) = 0 := by unfold loW; omega
    have hsq := fun w' => wsqrt_any (X * 18446744073709551616) s w' (by omega) (by omega) hs
    rw [z1, z2] at hsq
    have z0 : ((0 : Nat) : Int) = 0 := rfl
    rw [z0] at hsq
    have w9 : ea.tdiv 2 = ea / 2 := by rw [show ea = 2 * (ea / 2) by omega]; simp
    have w9b : IntKind.i16.wrap (ea.tdiv 2) = ea / 2 := by rw [w9]; exact IntWalk.i16_in _ (by omega)
    have w9c : IntKind.i16.wrap (ea / 2) = ea / 2 := IntWalk.i16_in _ (by omega)
    have w10 : IntKind.i16.wrap (ea / 2 - 32) = ea / 2 - 32 := IntWalk.i16_in _ (by omega)
    have x1e : -5000 ≤ ea / 2 - 32 := by omega
    have x2e : ea / 2 - 32 ≤ 5000 := by omega
    have s0 : 0 < s := by
      rcases Nat.eq_zero_or_pos s with z | z
      · have := hs.2; rw [z] at this; omega
      · exact z
    rw [ce] at hand
    obtain ⟨VV, hVV⟩ : ∃ VV, VV = X * 18446744073709551616 := ⟨_, rfl⟩
    rw [← hVV] at hV hsq
    generalize ea / 2 = g at *
    clear hs hVV z1 z2 z0 ce er1 er2 w9
    by_cases cw : s * s = VV
    · rw [if_pos cw] at hV
      have hrp := fun w' => roundPack_any E M mode false (g - 32) s w' h s0 sl x1e x2e
      rw [← hV] at hrp
      have dw : decide (s * s = VV) = true := decide_eq_true cw
      rw [dw] at hsq
      clear hV cw dw
      subst eW
      go_wp2_with fail
      refine (ht1 _).mono ?_
      rintro e w3 ⟨rfl, hb⟩
      have hB3 := hB.trans (hb.mono hB.size)
      have c0 := cell_later hb c0
      have c1 := cell_later hb c1
      clear hb x0 x1 x2 x3 ht1
      obtain ⟨W3, eW3⟩ : ∃ W3, W3 = w3.alloc (.cells #[.int .u64 X, .int .u64 0] 47) := ⟨_, rfl⟩
      have hb : Below w3.heap.size w3 W3 := by rw [eW3]; exact (Below.refl _ _).alloc (Nat.le_refl _) _
      have hB4 := hB3.trans (hb.mono hB3.size)
      have c0 := cell_later hb c0
      have c1 := cell_later hb c1
      have u0 : W3.cell? ⟨w3.heap.size, 0, none⟩ = some (.int .u64 X) := by rw [eW3]; simp [go_sem]
      have u1 : W3.cell? ⟨w3.heap.size, 1, none⟩ = some (.int .u64 0) := by rw [eW3]; simp [go_sem]
      have o0 : W3.frozen? ⟨w3.heap.size, 0, none⟩ = false := by rw [eW3]; simp [go_sem]
      have o1 : W3.frozen? ⟨w3.heap.size, 1, none⟩ = false := by rw [eW3]; simp [go_sem]
      clear hb
      subst eW3
      go_wp2_with fail
      refine (hsq _).mono ?_
      rintro e w5 ⟨rfl, hb⟩
      have hB5 := hB4.trans (hb.mono hB4.size)
      have c0 := cell_later hb c0
      have c1 := cell_later hb c1
      clear hb
      go_wp2_with fail
      refine (hrp _).mono ?_
      rintro e w6 ⟨⟨fl, rfl⟩, hb⟩
      have hB6 := hB5.trans (hb.mono hB5.size)
      go_wp2
      go_ret2
      exact ⟨⟨fl, rfl⟩, hB6⟩
    · rw [if_neg cw] at hV
      have hrp := fun w' => roundPack_any E M mode false (g - 32) (s ||| 1) w' h hor2.2 hor2.1 x1e x2e
      rw [← hV] at hrp
      have dw : decide (s * s = VV) = false := decide_eq_false cw
      rw [dw] at hsq
      generalize s ||| 1 = so at *
      clear hV cw dw
      subst eW
      go_wp2_with fail
      refine (ht1 _).mono ?_
      rintro e w3 ⟨rfl, hb⟩
      have hB3 := hB.trans (hb.mono hB.size)
      have c0 := cell_later hb c0
      have c1 := cell_later hb c1
      clear hb x0 x1 x2 x3 ht1
      obtain ⟨W3, eW3⟩ : ∃ W3, W3 = w3.alloc (.cells #[.int .u64 X, .int .u64 0] 47) := ⟨_, rfl⟩
      have hb : Below w3.heap.size w3 W3 := by rw [eW3]; exact (Below.refl _ _).alloc (Nat.le_refl _) _
      have hB4 := hB3.trans (hb.mono hB3.size)
      have c0 := cell_later hb c0
      have c1 := cell_later hb c1
      have u0 : W3.cell? ⟨w3.heap.size, 0, none⟩ = some (.int .u64 X) := by rw [eW3]; simp [go_sem]
      have u1 : W3.cell? ⟨w3.heap.size, 1, none⟩ = some (.int .u64 0) := by rw [eW3]; simp [go_sem]
      have o0 : W3.frozen? ⟨w3.heap.size, 0, none⟩ = false := by rw [eW3]; simp [go_sem]
      have o1 : W3.frozen? ⟨w3.heap.size, 1, none⟩ = false := by rw [eW3]; simp [go_sem]
      clear hb
      subst eW3
      go_wp2_with fail
      refine (hsq _).mono ?_
      rintro e w5 ⟨rfl, hb⟩
      have hB5 := hB4.trans (hb.mono hB4.size)
      have c0 := cell_later hb c0
      have c1 := cell_later hb c1
      clear hb
      go_wp2_with fail
      refine (hrp _).mono ?_
      rintro e w6 ⟨⟨fl, rfl⟩, hb⟩
      have hB6 := hB5.trans (hb.mono hB5.size)
      go_wp2
      go_ret2
      exact ⟨⟨fl, rfl⟩, hB6⟩
  · rw [if_neg ce, if_neg ce] at hV
    rw [if_neg ce] at hs
    have y1 : hiW (X * 18446744073709551616) = X := by unfold hiW; omega
    have y2 : loW (X * 18446744073709551616) = 0 := by unfold loW; omega
    have hdv : X * 18446744073709551616 / 2 ^ 1 = X * 9223372036854775808 := by rw [Nat.pow_one]; omega
    have hsr := fun w' => wshr_any (X * 18446744073709551616) 1 w' (by decide) (by omega)
    rw [y1, y2, hdv] at hsr
    have z0 : ((0 : Nat) : Int) = 0 := rfl
    have z1' : ((1 : Nat) : Int) = 1 := rfl
    rw [z0, z1'] at hsr
    have hsq := fun w' => wsqrt_any (X * 9223372036854775808) s w' (by omega) (by omega) hs
    have w8 : IntKind.i16.wrap (ea + 1) = ea + 1 := IntWalk.i16_in _ (by omega)
    have w9 : (ea + 1).tdiv 2 = (ea + 1) / 2 := by rw [show ea + 1 = 2 * ((ea + 1) / 2) by omega]; simp
    have w9b : IntKind.i16.wrap ((ea + 1).tdiv 2) = (ea + 1) / 2 := by rw [w9]; exact IntWalk.i16_in _ (by omega)
    have w9c : IntKind.i16.wrap ((ea + 1) / 2) = (ea + 1) / 2 := IntWalk.i16_in _ (by omega)
    have w10 : IntKind.i16.wrap ((ea + 1) / 2 - 32) = (ea + 1) / 2 - 32 := IntWalk.i16_in _ (by omega)
    have x1e : -5000 ≤ (ea + 1) / 2 - 32 := by omega
    have x2e : (ea + 1) / 2 - 32 ≤ 5000 := by omega
    have s0 : 0 < s := by
      rcases Nat.eq_zero_or_pos s with z | z
      · have := hs.2; rw [z] at this; omega
      · exact z
    have ce1 : ea % 2 = 1 := by omega
    rw [ce1] at hand
    obtain ⟨VV, hVV⟩ : ∃ VV, VV = X * 9223372036854775808 := ⟨_, rfl⟩
    rw [← hVV] at hV hsq hsr
    generalize (ea + 1) / 2 = g at *
    clear hs hVV y1 y2 z0 z1' ce ce1 er1 er2 hdv w9
    by_cases cw : s * s = VV
    · rw [if_pos cw] at hV
      have hrp := fun w' => roundPack_any E M mode false (g - 32) s w' h s0 sl x1e x2e
      rw [← hV] at hrp
      have dw : decide (s * s = VV) = true := decide_eq_true cw
      rw [dw] at hsq
      clear hV cw dw
      subst eW
      go_wp2_with fail
      refine (ht1 _).mono ?_
      rintro e w3 ⟨rfl, hb⟩
      have hB3 := hB.trans (hb.mono hB.size)
      have c0 := cell_later hb c0
      have c1 := cell_later hb c1
      have c03 := c0
      clear hb x0 x1 x2 x3 ht1
      obtain ⟨W3, eW3⟩ : ∃ W3, W3 = w3.alloc (.cells #[.int .u64 X, .int .u64 0] 47) := ⟨_, rfl⟩
      have hb : Below w3.heap.size w3 W3 := by rw [eW3]; exact (Below.refl _ _).alloc (Nat.le_refl _) _
      have hB4 := hB3.trans (hb.mono hB3.size)
      have c0 := cell_later hb c0
      have c1 := cell_later hb c1
      have u0 : W3.cell? ⟨w3.heap.size, 0, none⟩ = some (.int .u64 X) := by rw [eW3]; simp [go_sem]
      have u1 : W3.cell? ⟨w3.heap.size, 1, none⟩ = some (.int .u64 0) := by rw [eW3]; simp [go_sem]
      have o0 : W3.frozen? ⟨w3.heap.size, 0, none⟩ = false := by rw [eW3]; simp [go_sem]
      have o1 : W3.frozen? ⟨w3.heap.size, 1, none⟩ = false := by rw [eW3]; simp [go_sem]
      clear hb
      subst eW3
      go_wp2_with fail
      refine (hsr _).mono ?_
      rintro e w4 ⟨rfl, hb⟩
      have o0 := frozen_later hb u0 o0
      have o1 := frozen_later hb u1 o1
      have u0 := cell_later hb u0
      have u1 := cell_later hb u1
      have hB4 := hB4.trans (hb.mono hB4.size)
      have c0 := cell_later hb c0
      have c1 := cell_later hb c1
      clear hb hsr
      obtain ⟨W4, eW4⟩ : ∃ W4, W4 = (w4.setCell ⟨w3.heap.size, 0, none⟩ (.int .u64 (hiW VV))).setCell ⟨w3.heap.size, 1, none⟩ (.int .u64 (loW VV)) := ⟨_, rfl⟩
      have hlt3 : w.heap.size < w3.heap.size := World.block_lt_of_cell? _ _ c03
      have hB5' : Below w.heap.size w W4 := by rw [eW4]; exact (hB4.setCell (by simp; omega) _).setCell (by simp; omega) _
      have c0 : W4.cell? ⟨w.heap.size, 0, none⟩ = some (.int .u8 E) := by rw [eW4, World.cell?_setCell_far _ _ _ _ (by simp; omega), World.cell?_setCell_far _ _ _ _ (by simp; omega)]; exact c0
      have c1 : W4.cell? ⟨w.heap.size, 1, none⟩ = some (.int .u8 M) := by rw [eW4, World.cell?_setCell_far _ _ _ _ (by simp; omega), World.cell?_setCell_far _ _ _ _ (by simp; omega)]; exact c1
      have u0' : W4.cell? ⟨w3.heap.size, 0, none⟩ = some (.int .u64 (hiW VV)) := by rw [eW4]; simp [go_sem, u0]
      have u1' : W4.cell? ⟨w3.heap.size, 1, none⟩ = some (.int .u64 (loW VV)) := by rw [eW4]; simp [go_sem, u1]
      subst eW4
      go_wp2_with fail
      refine (hsq _).mono ?_
      rintro e w5 ⟨rfl, hb⟩
      have hB5 := hB5'.trans (hb.mono hB5'.size)
      have c0 := cell_later hb c0
      have c1 := cell_later hb c1
      clear hb
      go_wp2_with fail
      refine (hrp _).mono ?_
      rintro e w6 ⟨⟨fl, rfl⟩, hb⟩
      have hB6 := hB5.trans (hb.mono hB5.size)
      go_wp2
      go_ret2
      exact ⟨⟨fl, rfl⟩, hB6⟩
    · rw [if_neg cw] at hV
      have hrp := fun w' => roundPack_any E M mode false (g - 32) (s ||| 1) w' h hor2.2 hor2.1 x1e x2e
      rw [← hV] at hrp
      have dw : decide (s * s = VV) = false := decide_eq_false cw
      rw [dw] at hsq
      generalize s ||| 1 = so at *
      clear hV cw dw
      subst eW
      go_wp2_with fail
      refine (ht1 _).mono ?_
      rintro e w3 ⟨rfl, hb⟩
      have hB3 := hB.trans (hb.mono hB.size)
      have c0 := cell_later hb c0
      have c1 := cell_later hb c1
      have c03 := c0
      clear hb x0 x1 x2 x3 ht1
      obtain ⟨W3, eW3⟩ : ∃ W3, W3 = w3.alloc (.cells #[.int .u64 X, .int .u64 0] 47) := ⟨_, rfl⟩
      have hb : Below w3.heap.size w3 W3 := by rw [eW3]; exact (Below.refl _ _).alloc (Nat.le_refl _) _
      have hB4 := hB3.trans (hb.mono hB3.size)
      have c0 := cell_later hb c0
      have c1 := cell_later hb c1
      have u0 : W3.cell? ⟨w3.heap.size, 0, none⟩ = some (.int .u64 X) := by rw [eW3]; simp [go_sem]
      have u1 : W3.cell? ⟨w3.heap.size, 1, none⟩ = some (.int .u64 0) := by rw [eW3]; simp [go_sem]
      have o0 : W3.frozen? ⟨w3.heap.size, 0, none⟩ = false := by rw [eW3]; simp [go_sem]
      have o1 : W3.frozen? ⟨w3.heap.size, 1, none⟩ = false := by rw [eW3]; simp [go_sem]
      clear hb
      subst eW3
      go_wp2_with fail
      refine (hsr _).mono ?_
      rintro e w4 ⟨rfl, hb⟩
      have o0 := frozen_later hb u0 o0
      have o1 := frozen_later hb u1 o1
      have u0 := cell_later hb u0
      have u1 := cell_later hb u1
      have hB4 := hB4.trans (hb.mono hB4.size)
      have c0 := cell_later hb c0
      have c1 := cell_later hb c1
      clear hb hsr
      obtain ⟨W4, eW4⟩ : ∃ W4, W4 = (w4.setCell ⟨w3.heap.size, 0, none⟩ (.int .u64 (hiW VV))).setCell ⟨w3.heap.size, 1, none⟩ (.int .u64 (loW VV)) := ⟨_, rfl⟩
      have hlt3 : w.heap.size < w3.heap.size := World.block_lt_of_cell? _ _ c03
      have hB5' : Below w.heap.size w W4 := by rw [eW4]; exact (hB4.setCell (by simp; omega) _).setCell (by simp; omega) _
      have c0 : W4.cell? ⟨w.heap.size, 0, none⟩ = some (.int .u8 E) := by rw [eW4, World.cell?_setCell_far _ _ _ _ (by simp; omega), World.cell?_setCell_far _ _ _ _ (by simp; omega)]; exact c0
      have c1 : W4.cell? ⟨w.heap.size, 1, none⟩ = some (.int .u8 M) := by rw [eW4, World.cell?_setCell_far _ _ _ _ (by simp; omega), World.cell?_setCell_far _ _ _ _ (by simp; omega)]; exact c1
      have u0' : W4.cell? ⟨w3.heap.size, 0, none⟩ = some (.int .u64 (hiW VV)) := by rw [eW4]; simp [go_sem, u0]
      have u1' : W4.cell? ⟨w3.heap.size, 1, none⟩ = some (.int .u64 (loW VV)) := by rw [eW4]; simp [go_sem, u1]
      subst eW4
      go_wp2_with fail
      refine (hsq _).mono ?_
      rintro e w5 ⟨rfl, hb⟩
      have hB5 := hB5'.trans (hb.mono hB5'.size)
      have c0 := cell_later hb c0
      have c1 := cell_later hb c1
      clear hb
      go_wp2_with fail
      refine (hrp _).mono ?_
      rintro e w6 ⟨⟨fl, rfl⟩, hb⟩
      have hB6 := hB5.trans (hb.mono hB5.size)
      go_wp2
      go_ret2
      exact ⟨⟨fl, rfl⟩, hB6⟩

end Go.Proofs.Ygcoah
