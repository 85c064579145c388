/-
  THE WALKS OF PACKAGE soft: DivFlags, both operands numbers.
-/
import Derived.Test.YgcoahDivS
namespace Go.Proofs.Ygcoah
open Go.RowKit

set_option maxRecDepth 100000 in
set_option maxHeartbeats 6400000 in
theorem divFlags_num (E M mode x y : Nat) (w : World) (h : FOk E M) (hx : x < 18446744073709551616) (hy : y < 18446744073709551616) (s1 : (unp E M x).cls = 1 ∨ (unp E M x).cls = 2) (s2 : (unp E M y).cls = 1 ∨ (unp E M y).cls = 2) :
    Calls Oahg.prog 45 #[.agg #[.int .u8 E, .int .u8 M], .int .u8 mode, .int .u64 x, .int .u64 y] w fun r w' =>
      (∃ fl : Int, r = .returned (.tuple #[.int .u64 (divR E M mode (unp E M x) (unp E M y)), .int .u8 fl])) ∧ Below w.heap.size w w' := by
  have fx := unp_facts E M x h
  have fy := unp_facts E M y h
  have gx := unp_man E M x
  have gy := unp_man E M y
  have hux := fun w' => unpack_pt E M x w' h hx
  have huy := fun w' => unpack_pt E M y w' h hy
  generalize unp E M x = p at *
  generalize unp E M y = q at *
  obtain ⟨n1, k1, e1, m1⟩ := p
  obtain ⟨n2, k2, e2, m2⟩ := q
  obtain ⟨V, hV⟩ : ∃ V, V = divR E M mode ⟨n1, k1, e1, m1⟩ ⟨n2, k2, e2, m2⟩ := ⟨_, rfl⟩
  rw [← hV]
  unfold divR at hV
  simp only [] at fx fy gx gy hV s1 s2
  replace gx := gx s1
  replace gy := gy s2
  go_enter Oahg.func45, Oahg.ntmps45
  go_wp2_with (go_at_call 18; refine (okT _ _ _ h).mono ?_; rintro e wa ⟨rfl, hba⟩)
  have c0 : wa.cell? ⟨w.heap.size, 0, none⟩ = some (.int .u8 E) := cell_later hba (by simp [go_sem])
  have c1 : wa.cell? ⟨w.heap.size, 1, none⟩ = some (.int .u8 M) := cell_later hba (by simp [go_sem])
  have hBa : Below w.heap.size w wa := ((Below.refl _ _).alloc (Nat.le_refl _) _).trans (hba.mono (by simp))
  clear hba
  refine two_region (R1 := fun _ u => u = ptV ⟨n1, k1, e1, m1⟩) (R2 := fun _ u => u = ptV ⟨n2, k2, e2, m2⟩) (by kernel_rfl) ⟨by simp⟩ (by kernel_rfl) (by kernel_rfl) (by kernel_rfl) (by kernel_rfl) (by kernel_rfl) (by kernel_rfl) (by kernel_rfl) (by kernel_rfl)
    rfl rfl c0 c1 rfl rfl call50 (lasts_eq _) (lasts_eq _) (fun w _ => hux w) (fun w _ => huy w) al63 ?_ ?_
  · rintro ev b d u ty s A w' v (rfl | rfl) hf he hu
    · exact st63 ev b d u ty s A w' _ hf he hu
    · exact st63 ev b d u ty s A w' _ hf he hu
  rintro b c v u W hBW hb1 hb2 hb3 hb4 hbc rfl rfl hhx hhy
  have hB := hBa.trans (hBW.mono hBa.size)
  have c0 := cell_later hBW c0
  have c1 := cell_later hBW c1
  obtain ⟨x0, x1, x2, x3⟩ := held63 hhx
  obtain ⟨y0, y1, y2, y3⟩ := held63 hhy
  clear hhx hhy hux huy hb1 hb2 hb3 hb4 hbc hBW hBa
  simp only [] at x0 x1 x2 x3 y0 y1 y2 y3
  unfold puts8 ptV
  simp only [Act.put]
  have b14 : ((k1 : Int) == 4) = false := by rw [beq_eq_false_iff_ne]; omega
  have b13 : ((k1 : Int) == 3) = false := by rw [beq_eq_false_iff_ne]; omega
  have b10 : ((k1 : Int) == 0) = false := by rw [beq_eq_false_iff_ne]; omega
  have b24 : ((k2 : Int) == 4) = false := by rw [beq_eq_false_iff_ne]; omega
  have b23 : ((k2 : Int) == 3) = false := by rw [beq_eq_false_iff_ne]; omega
  have b20 : ((k2 : Int) == 0) = false := by rw [beq_eq_false_iff_ne]; omega
  rw [if_neg (by omega), if_neg (by omega), if_neg (by omega), if_neg (by omega), if_neg (by omega)] at hV
  have hM : M ≤ 52 := h.2.2.2
  have o1 := gx
  have o2 := gy
  obtain ⟨r1, r2, r3, r4, r5, r6⟩ := div_range M m1 m2 hM o1.1 o1.2 o2.1 o2.2
  have ht1 := fun w' => top_any E M k1 m1 n1 e1 w' h o1.2 (by omega) (by omega)
  have ht2 := fun w' => top_any E M k2 m2 n2 e2 w' h o2.2 (by omega) (by omega)
  have wr1 : IntKind.i16.wrap (e1 - 63 + (M : Int) - (e2 - 63 + (M : Int))) = e1 - e2 := by rw [IntWalk.i16_in _ (by omega)]; omega
  have wr2 : IntKind.i16.wrap (e1 - e2 - 63) = e1 - e2 - 63 := IntWalk.i16_in _ (by omega)
  have hM2 : 2 ≤ M := h.2.2.1
  have x1e : -5000 ≤ e1 - e2 - 63 := by omega
  have x2e : e1 - e2 - 63 ≤ 5000 := by omega
  unfold divJ at hV
  generalize m1 * 2 ^ (63 - M) = X1 at *
  generalize m2 * 2 ^ (63 - M) = X2 at *
  have w4 : IntKind.u64.wrap ((X1 : Int) * 9223372036854775808) = (loW (X1 * 9223372036854775808) : Int) := by unfold loW; rw [IntKind.wrap_u64]; omega
  have w5 : (X1 : Int) / 2 = (hiW (X1 * 9223372036854775808) : Int) := by unfold hiW; omega
  have hdiv := fun w' => wdiv_any (X1 * 9223372036854775808) X2 w' (by omega) r4 (by unfold hiW; omega)
  generalize e1 - 63 + (M : Int) = ea at *
  generalize e2 - 63 + (M : Int) = eb at *
  generalize e1 - e2 = g at *
  by_cases cr : X1 * 9223372036854775808 % X2 = 0
  · rw [if_pos cr] at hV
    have hrp := fun w' => roundPack_any E M mode (n1 != n2) (g - 63) (X1 * 9223372036854775808 / X2) w' h (by omega) r6 x1e x2e
    rw [← hV] at hrp
    rw [cr] at hdiv
    have z0 : ((0 : Nat) : Int) = 0 := rfl
    rw [z0] at hdiv
    generalize X1 * 9223372036854775808 / X2 = qq at *
    generalize hiW (X1 * 9223372036854775808) = hh at *
    generalize loW (X1 * 9223372036854775808) = ll at *
    clear gx gy fx fy o1 o2 cr z0 r1 r2 r3 r4 r5 r6
    clear hV
    go_wp2_with fail
    refine (ht1 _).mono ?_
    rintro e w1 ⟨rfl, hb⟩
    have hB1 := hB.trans (hb.mono hB.size)
    have c0 := cell_later hb c0
    have c1 := cell_later hb c1
    have y0 := cell_later hb y0
    have y1 := cell_later hb y1
    have y2 := cell_later hb y2
    have y3 := cell_later hb y3
    clear x0 x1 x2 x3
    go_wp2_with fail
    refine (ht2 _).mono ?_
    rintro e w2 ⟨rfl, hb⟩
    have hB2 := hB1.trans (hb.mono hB1.size)
    have c0 := cell_later hb c0
    have c1 := cell_later hb c1
    clear y0 y1 y2 y3
    go_wp2_with fail
    refine (hdiv _).mono ?_
    rintro e w3 ⟨rfl, hb⟩
    have hB3 := hB2.trans (hb.mono hB2.size)
    have c0 := cell_later hb c0
    have c1 := cell_later hb c1
    go_wp2_with fail
    refine (hrp _).mono ?_
    rintro e w4 ⟨⟨fl, rfl⟩, hb⟩
    have hB4 := hB3.trans (hb.mono hB3.size)
    go_wp2
    go_ret2
    exact ⟨⟨fl, rfl⟩, hB4⟩
  · rw [if_neg cr] at hV
    have hor : bits .or .u64 ((X1 * 9223372036854775808 / X2 : Nat) : Int) 1 = ((X1 * 9223372036854775808 / X2 ||| 1 : Nat) : Int) := u64_or_nat _ 1 r6 (by decide)
    have hor2 : (X1 * 9223372036854775808 / X2 ||| 1) < 18446744073709551616 ∧ 0 < (X1 * 9223372036854775808 / X2 ||| 1) := by rw [or_one]; omega
    have hrp := fun w' => roundPack_any E M mode (n1 != n2) (g - 63) (X1 * 9223372036854775808 / X2 ||| 1) w' h hor2.2 hor2.1 x1e x2e
    rw [← hV] at hrp
    have nz : (((X1 * 9223372036854775808 % X2 : Nat) : Int) != 0) = true := by rw [bne_iff_ne]; omega
    generalize X1 * 9223372036854775808 / X2 ||| 1 = qo at *
    generalize X1 * 9223372036854775808 / X2 = qq at *
    generalize X1 * 9223372036854775808 % X2 = rr at *
    generalize hiW (X1 * 9223372036854775808) = hh at *
    generalize loW (X1 * 9223372036854775808) = ll at *
    clear gx gy fx fy o1 o2 cr r1 r2 r3 r4 r5 r6 hor2
    clear hV
    go_wp2_with fail
    refine (ht1 _).mono ?_
    rintro e w1 ⟨rfl, hb⟩
    have hB1 := hB.trans (hb.mono hB.size)
    have c0 := cell_later hb c0
    have c1 := cell_later hb c1
    have y0 := cell_later hb y0
    have y1 := cell_later hb y1
    have y2 := cell_later hb y2
    have y3 := cell_later hb y3
    clear x0 x1 x2 x3
    go_wp2_with fail
    refine (ht2 _).mono ?_
    rintro e w2 ⟨rfl, hb⟩
    have hB2 := hB1.trans (hb.mono hB1.size)
    have c0 := cell_later hb c0
    have c1 := cell_later hb c1
    clear y0 y1 y2 y3
    go_wp2_with fail
    refine (hdiv _).mono ?_
    rintro e w3 ⟨rfl, hb⟩
    have hB3 := hB2.trans (hb.mono hB2.size)
    have c0 := cell_later hb c0
    have c1 := cell_later hb c1
    go_wp2_with fail
    refine (hrp _).mono ?_
    rintro e w4 ⟨⟨fl, rfl⟩, hb⟩
    have hB4 := hB3.trans (hb.mono hB3.size)
    go_wp2
    go_ret2
    exact ⟨⟨fl, rfl⟩, hB4⟩

end Go.Proofs.Ygcoah
