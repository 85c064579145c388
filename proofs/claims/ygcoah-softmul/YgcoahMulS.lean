/-
  THE WALKS OF PACKAGE soft: MulFlags.
-/
import Derived.Test.YgcoahTwo3
import Derived.Test.YgcoahSoft4
import Derived.Test.YgcoahExt
import Derived.Test.YgcoahWide7
import Derived.Test.YgcoahSoft6
namespace Go.Proofs.Ygcoah
open Go.RowKit

/-- What soft.MulFlags answers. -/
def mulR (E M mode : Nat) (p q : Pt) : Nat :=
  if p.cls = 4 ∨ q.cls = 4 then nanP E M
  else if (p.cls = 3 ∧ q.cls = 0) ∨ (p.cls = 0 ∧ q.cls = 3) then nanP E M
  else if p.cls = 3 ∨ q.cls = 3 then infS E M (p.neg != q.neg)
  else if p.cls = 0 ∨ q.cls = 0 then sgnP E M (p.neg != q.neg)
  else softR E M mode (p.neg != q.neg) (p.exp + q.exp - 64 + (bl (p.man * q.man) : Int)) (jamP (p.man * q.man))

set_option maxRecDepth 100000 in
set_option maxHeartbeats 6400000 in
theorem mulFlags_any (E M mode x y : Nat) (w : World) (h : FOk E M) (hx : x < 18446744073709551616) (hy : y < 18446744073709551616) :
    Calls Oahg.prog 44 #[.agg #[.int .u8 E, .int .u8 M], .int .u8 mode, .int .u64 x, .int .u64 y] w fun r w' =>
      (∃ fl : Int, r = .returned (.tuple #[.int .u64 (mulR E M mode (unp E M x) (unp E M y)), .int .u8 fl])) ∧ Below w.heap.size w w' := by
  have fx := unp_facts E M x h
  have fy := unp_facts E M y h
  have gx := unp_man E M x
  have gy := unp_man E M y
  have hux := fun w' => unpack_pt E M x w' h hx
  have huy := fun w' => unpack_pt E M y w' h hy
  generalize unp E M x = p at *
  generalize unp E M y = q at *
  obtain ⟨n1, k1, e1, m1⟩ := p
  obtain ⟨n2, k2, e2, m2⟩ := q
  obtain ⟨V, hV⟩ : ∃ V, V = mulR E M mode ⟨n1, k1, e1, m1⟩ ⟨n2, k2, e2, m2⟩ := ⟨_, rfl⟩
  rw [← hV]
  unfold mulR at hV
  simp only [] at fx fy gx gy hV
  go_enter Oahg.func44, Oahg.ntmps44
  go_wp2_with (go_at_call 18; refine (okT _ _ _ h).mono ?_; rintro e wa ⟨rfl, hba⟩)
  have c0 : wa.cell? ⟨w.heap.size, 0, none⟩ = some (.int .u8 E) := cell_later hba (by simp [go_sem])
  have c1 : wa.cell? ⟨w.heap.size, 1, none⟩ = some (.int .u8 M) := cell_later hba (by simp [go_sem])
  have hBa : Below w.heap.size w wa := ((Below.refl _ _).alloc (Nat.le_refl _) _).trans (hba.mono (by simp))
  clear hba
  refine two_region (R1 := fun _ u => u = ptV ⟨n1, k1, e1, m1⟩) (R2 := fun _ u => u = ptV ⟨n2, k2, e2, m2⟩) (by kernel_rfl) ⟨by simp⟩ (by kernel_rfl) (by kernel_rfl) (by kernel_rfl) (by kernel_rfl) (by kernel_rfl) (by kernel_rfl) (by kernel_rfl) (by kernel_rfl)
    rfl rfl c0 c1 rfl rfl call50 (lasts_eq _) (lasts_eq _) (fun w _ => hux w) (fun w _ => huy w) al63 ?_ ?_
  · rintro ev b d u ty s A w' v (rfl | rfl) hf he hu
    · exact st63 ev b d u ty s A w' _ hf he hu
    · exact st63 ev b d u ty s A w' _ hf he hu
  rintro b c v u W hBW hb1 hb2 hb3 hb4 hbc rfl rfl hhx hhy
  have hB := hBa.trans (hBW.mono hBa.size)
  have c0 := cell_later hBW c0
  have c1 := cell_later hBW c1
  obtain ⟨x0, x1, x2, x3⟩ := held63 hhx
  obtain ⟨y0, y1, y2, y3⟩ := held63 hhy
  clear hhx hhy hux huy hb1 hb2 hb3 hb4 hbc hBW hBa
  simp only [] at x0 x1 x2 x3 y0 y1 y2 y3
  unfold puts8 ptV
  have hnan := fun w' => theNaN_any E M w' h
  have hhrd := fun w' => sheard_any E M x y w' h hx hy
  have hinf := fun b w' => inf_any E M b w' h
  have hzer := fun b w' => szero_any E M b w' h
  simp only [Act.put]
  by_cases a1 : k1 = 4
  · have hV' : V = nanP E M := by rw [hV, if_pos (Or.inl a1)]
    clear hV
    have b14 : ((k1 : Int) == 4) = true := by rw [beq_iff_eq]; omega
    go_wp2
    clear x0 x1 x2 x3 y0 y1 y2 y3
    have d0 : ∀ x : Ext W, x.w.cell? ⟨w.heap.size, 0, none⟩ = some (.int .u8 E) := fun x => x.cell c0
    have d1 : ∀ x : Ext W, x.w.cell? ⟨w.heap.size, 1, none⟩ = some (.int .u8 M) := fun x => x.cell c1
    have hX : Nonempty (Ext W) := Ext.some _
    refine wp_region_ext (by kernel_rfl) (by kernel_rfl) ?_
    repeat (go_big_quiet_step (first | (go_at_call 52; exact Calls.ext_of (hnan _)) | (go_at_call 53; exact Calls.ext_of (hhrd _))))
    refine wpQuiet_nil ?_
    rintro _ ⟨x, rfl⟩
    have hBx : Below w.heap.size w x.w := hB.trans (x.hb.mono hB.size)
    generalize x.w = wx at *
    clear d0 d1 hX
    go_wp2
    go_ret2
    exact ⟨⟨_, by rw [hV']; rfl⟩, hBx⟩
  have b14 : ((k1 : Int) == 4) = false := by rw [beq_eq_false_iff_ne]; omega
  by_cases a2 : k2 = 4
  · have hV' : V = nanP E M := by rw [hV, if_pos (Or.inr a2)]
    clear hV
    have b24 : ((k2 : Int) == 4) = true := by rw [beq_iff_eq]; omega
    go_wp2
    clear x0 x1 x2 x3 y0 y1 y2 y3
    have d0 : ∀ x : Ext W, x.w.cell? ⟨w.heap.size, 0, none⟩ = some (.int .u8 E) := fun x => x.cell c0
    have d1 : ∀ x : Ext W, x.w.cell? ⟨w.heap.size, 1, none⟩ = some (.int .u8 M) := fun x => x.cell c1
    have hX : Nonempty (Ext W) := Ext.some _
    refine wp_region_ext (by kernel_rfl) (by kernel_rfl) ?_
    repeat (go_big_quiet_step (first | (go_at_call 52; exact Calls.ext_of (hnan _)) | (go_at_call 53; exact Calls.ext_of (hhrd _))))
    refine wpQuiet_nil ?_
    rintro _ ⟨x, rfl⟩
    have hBx : Below w.heap.size w x.w := hB.trans (x.hb.mono hB.size)
    generalize x.w = wx at *
    clear d0 d1 hX
    go_wp2
    go_ret2
    exact ⟨⟨_, by rw [hV']; rfl⟩, hBx⟩
  have b24 : ((k2 : Int) == 4) = false := by rw [beq_eq_false_iff_ne]; omega
  rw [if_neg (by omega)] at hV
  by_cases a3 : k1 = 3 ∧ k2 = 0
  · have hV' : V = nanP E M := by rw [hV, if_pos (Or.inl a3)]
    clear hV
    have b13 : ((k1 : Int) == 3) = true := by rw [beq_iff_eq]; omega
    have b20 : ((k2 : Int) == 0) = true := by rw [beq_iff_eq]; omega
    go_wp2_with fail
    refine (hnan _).mono ?_
    rintro e w1 ⟨rfl, hb⟩
    have hB1 := hB.trans (hb.mono hB.size)
    go_wp2
    go_ret2
    exact ⟨⟨_, by rw [hV']; rfl⟩, hB1⟩
  by_cases a4 : k1 = 0 ∧ k2 = 3
  · have hV' : V = nanP E M := by rw [hV, if_pos (Or.inr a4)]
    clear hV
    have b13 : ((k1 : Int) == 3) = false := by rw [beq_eq_false_iff_ne]; omega
    have b10 : ((k1 : Int) == 0) = true := by rw [beq_iff_eq]; omega
    have b23 : ((k2 : Int) == 3) = true := by rw [beq_iff_eq]; omega
    go_wp2_with fail
    refine (hnan _).mono ?_
    rintro e w1 ⟨rfl, hb⟩
    have hB1 := hB.trans (hb.mono hB.size)
    go_wp2
    go_ret2
    exact ⟨⟨_, by rw [hV']; rfl⟩, hB1⟩
  rw [if_neg (by omega)] at hV
  by_cases a5 : k1 = 3
  · have hV' : V = infS E M (n1 != n2) := by rw [hV, if_pos (Or.inl a5)]
    clear hV
    have b13 : ((k1 : Int) == 3) = true := by rw [beq_iff_eq]; omega
    have b10 : ((k1 : Int) == 0) = false := by rw [beq_eq_false_iff_ne]; omega
    have b20 : ((k2 : Int) == 0) = false := by rw [beq_eq_false_iff_ne]; omega
    go_wp2_with fail
    refine (hinf _ _).mono ?_
    rintro e w1 ⟨rfl, hb⟩
    have hB1 := hB.trans (hb.mono hB.size)
    go_wp2
    go_ret2
    exact ⟨⟨_, by rw [hV']; rfl⟩, hB1⟩
  have b13 : ((k1 : Int) == 3) = false := by rw [beq_eq_false_iff_ne]; omega
  by_cases a6 : k2 = 3
  · have hV' : V = infS E M (n1 != n2) := by rw [hV, if_pos (Or.inr a6)]
    clear hV
    have b23 : ((k2 : Int) == 3) = true := by rw [beq_iff_eq]; omega
    have b10 : ((k1 : Int) == 0) = false := by rw [beq_eq_false_iff_ne]; omega
    go_wp2_with fail
    refine (hinf _ _).mono ?_
    rintro e w1 ⟨rfl, hb⟩
    have hB1 := hB.trans (hb.mono hB.size)
    go_wp2
    go_ret2
    exact ⟨⟨_, by rw [hV']; rfl⟩, hB1⟩
  have b23 : ((k2 : Int) == 3) = false := by rw [beq_eq_false_iff_ne]; omega
  rw [if_neg (by omega)] at hV
  by_cases a7 : k1 = 0
  · have hV' : V = sgnP E M (n1 != n2) := by rw [hV, if_pos (Or.inl a7)]
    clear hV
    have b10 : ((k1 : Int) == 0) = true := by rw [beq_iff_eq]; omega
    go_wp2_with fail
    refine (hzer _ _).mono ?_
    rintro e w1 ⟨rfl, hb⟩
    have hB1 := hB.trans (hb.mono hB.size)
    go_wp2
    go_ret2
    exact ⟨⟨_, by rw [hV']; rfl⟩, hB1⟩
  have b10 : ((k1 : Int) == 0) = false := by rw [beq_eq_false_iff_ne]; omega
  by_cases a8 : k2 = 0
  · have hV' : V = sgnP E M (n1 != n2) := by rw [hV, if_pos (Or.inr a8)]
    clear hV
    have b20 : ((k2 : Int) == 0) = true := by rw [beq_iff_eq]; omega
    go_wp2_with fail
    refine (hzer _ _).mono ?_
    rintro e w1 ⟨rfl, hb⟩
    have hB1 := hB.trans (hb.mono hB.size)
    go_wp2
    go_ret2
    exact ⟨⟨_, by rw [hV']; rfl⟩, hB1⟩
  have b20 : ((k2 : Int) == 0) = false := by rw [beq_eq_false_iff_ne]; omega
  rw [if_neg (by omega)] at hV
  have hp := pow_pos2 M
  have o1 := gx (by omega)
  have o2 := gy (by omega)
  have z1 : 0 < m1 * m2 := Nat.mul_pos (by omega) (by omega)
  have z2 : m1 * m2 < 340282366920938463463374607431768211456 := by
    have : m1 * m2 < 9007199254740992 * 9007199254740992 := Nat.mul_lt_mul'' fx.2.2.2 fy.2.2.2
    omega
  have we : IntKind.i16.wrap (e1 + e2) = e1 + e2 := IntWalk.i16_in _ (by omega)
  have hmul := fun w' => mul64_any m1 m2 w' (by omega) (by omega)
  have hjam := fun w' => jam_any (m1 * m2) (e1 + e2) w' z1 z2 (by omega) (by omega)
  obtain ⟨j1, j2⟩ := jamP_pos _ z1 z2
  have zb : bl (m1 * m2) ≤ 128 := (bl_le_iff _ _).2 z2
  have hrp := fun w' => roundPack_any E M mode (n1 != n2) (e1 + e2 - 64 + (bl (m1 * m2) : Int)) (jamP (m1 * m2)) w' h j1 j2 (by omega) (by omega)
  rw [← hV] at hrp
  clear hV j1 j2 z1 z2 zb o1 o2 gx gy fx fy
  generalize jamP (m1 * m2) = sig at *
  generalize e1 + e2 - 64 + (bl (m1 * m2) : Int) = ex at *
  generalize m1 * m2 = mm at *
  go_wp2
  have d0 : ∀ x : Ext W, x.w.cell? ⟨b, 2, none⟩ = some (.int .i16 e1) := fun x => x.cell x2
  have d1 : ∀ x : Ext W, x.w.cell? ⟨b, 3, none⟩ = some (.int .u64 m1) := fun x => x.cell x3
  have d2 : ∀ x : Ext W, x.w.cell? ⟨c, 2, none⟩ = some (.int .i16 e2) := fun x => x.cell y2
  have d3 : ∀ x : Ext W, x.w.cell? ⟨c, 3, none⟩ = some (.int .u64 m2) := fun x => x.cell y3
  have hX : Nonempty (Ext W) := Ext.some _
  refine wp_region_ext (by kernel_rfl) (by kernel_rfl) ?_
  repeat (go_big_quiet_step (first | (go_at_call 84; exact Calls.ext_of (hmul _)) | (go_at_call 83; exact Calls.ext_of (hjam _))))
  refine wpQuiet_nil ?_
  rintro _ ⟨x, rfl⟩
  have hBx : Below w.heap.size w x.w := hB.trans (x.hb.mono hB.size)
  have c0 := x.cell c0
  have c1 := x.cell c1
  generalize x.w = wx at *
  clear d0 d1 d2 d3 hX x0 x1 x2 x3 y0 y1 y2 y3
  go_wp2_with fail
  refine (hrp _).mono ?_
  rintro e w1 ⟨⟨fl, rfl⟩, hb⟩
  have hB1 := hBx.trans (hb.mono hBx.size)
  go_wp2
  go_ret2
  exact ⟨⟨fl, rfl⟩, hB1⟩

end Go.Proofs.Ygcoah
