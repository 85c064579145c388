/-
  THE WALKS OF PACKAGE wide, 7: ShrJam.
-/
import Derived.Test.YgcoahWide6
import Derived.Test.YgcoahExt
namespace Go.Proofs.Ygcoah
open Go.RowKit

/-- a / 2^k, its lowest bit set also if a 1 bit was pushed out. -/
def shrJ (a k : Nat) : Nat := if a % 2 ^ k = 0 then a / 2 ^ k else (a / 2 ^ k) ||| 1

theorem or_one (x : Nat) : x ||| 1 = x / 2 * 2 + 1 := by
  have h1 := nat_join 1 (x / 2 * 2) 1 (by omega) (by decide)
  have h2 : x ||| 1 = (x / 2 * 2) ||| 1 := by
    refine Nat.eq_of_testBit_eq fun i => ?_
    rw [Nat.testBit_or, Nat.testBit_or]
    cases i with
    | zero => simp
    | succ i =>
      have : (x / 2 * 2).testBit (i + 1) = x.testBit (i + 1) := by
        rw [Nat.testBit_succ, Nat.testBit_succ]
        congr 1
        omega
      rw [this]
  rw [h2, h1]

theorem or_one_words (n : Nat) : hiW (n ||| 1) = hiW n ∧ loW (n ||| 1) = loW n ||| 1 := by
  rw [or_one, or_one]
  unfold hiW loW
  omega

set_option maxHeartbeats 800000 in
theorem shrJam_any (a k : Nat) (w : World) (hk : k < 256) (h : a < 340282366920938463463374607431768211456) :
    Calls Oahg.prog 160 #[.agg #[.int .u64 (hiW a), .int .u64 (loW a)], .int .u8 k] w fun r w' => r = .returned (.agg #[.int .u64 (hiW (shrJ a k)), .int .u64 (loW (shrJ a k))]) ∧ Below w.heap.size w w' := by
  have hsr := fun w' => wshr_any a k w' hk h
  have hle : a / 2 ^ k * 2 ^ k ≤ a := Nat.div_mul_le_self _ _
  have hsl := fun w' => wshl_any (a / 2 ^ k) k w' hk (by omega)
  have hne : a / 2 ^ k * 2 ^ k = a ↔ a % 2 ^ k = 0 := by
    have := Nat.div_add_mod a (2 ^ k)
    rw [Nat.mul_comm] at this
    omega
  obtain ⟨q, eq⟩ : ∃ q, q = a / 2 ^ k := ⟨_, rfl⟩
  obtain ⟨b, eb⟩ : ∃ b, b = q * 2 ^ k := ⟨_, rfl⟩
  rw [← eq] at hsr hsl hne
  rw [← eb] at hsl hne
  have HJ : Hid (shrJ a k = if a % 2 ^ k = 0 then q else q ||| 1) := by unfold Hid shrJ; rw [eq]
  clear hle eq eb
  by_cases c : a % 2 ^ k = 0
  · have e : b = a := hne.2 c
    subst e
    rw [HJ.out, if_pos c]
    clear c hne HJ
    go_enter Oahg.func160, Oahg.ntmps160
    go_wp2_with (go_at_call 56; refine (hsr _).mono ?_; rintro e wb ⟨rfl, hbb⟩; obtain ⟨hcb, hfb⟩ := bcell hbb; have hz0 : w.heap.size < wb.heap.size := (by have := hbb.size; simp at this; omega); have hz1 : w.heap.size + 1 < wb.heap.size := (by have := hbb.size; simp at this; omega))
    have z0 : wb.cell? ⟨w.heap.size + 1, 0, none⟩ = some (.int .u64 0) := cell_later hbb (by simp [go_sem])
    have z1 : wb.cell? ⟨w.heap.size + 1, 1, none⟩ = some (.int .u64 0) := cell_later hbb (by simp [go_sem])
    have z2 : wb.frozen? ⟨w.heap.size + 1, 0, none⟩ = false := by rw [hfb _ _ (by simp)]; simp [go_sem]
    have z3 : wb.frozen? ⟨w.heap.size + 1, 1, none⟩ = false := by rw [hfb _ _ (by simp)]; simp [go_sem]
    have z4 : wb.cell? ⟨w.heap.size, 0, none⟩ = some (.int .u64 (hiW b)) := cell_later hbb (by simp [go_sem])
    have z5 : wb.cell? ⟨w.heap.size, 1, none⟩ = some (.int .u64 (loW b)) := cell_later hbb (by simp [go_sem])
    obtain ⟨W, eW⟩ : ∃ W, W = wb.alloc (.cells #[.int .u64 (hiW q), .int .u64 (loW q)] 47) := ⟨_, rfl⟩
    have c0 : W.cell? ⟨wb.heap.size, 0, none⟩ = some (.int .u64 (hiW q)) := by rw [eW]; simp [go_sem]
    have c1 : W.cell? ⟨wb.heap.size, 1, none⟩ = some (.int .u64 (loW q)) := by rw [eW]; simp [go_sem]
    have c2 : W.cell? ⟨w.heap.size, 0, none⟩ = some (.int .u64 (hiW b)) := by rw [eW, World.cell?_alloc_past _ _ _ hz0]; exact z4
    have c3 : W.cell? ⟨w.heap.size, 1, none⟩ = some (.int .u64 (loW b)) := by rw [eW, World.cell?_alloc_past _ _ _ hz0]; exact z5
    have c4 : W.cell? ⟨w.heap.size + 1, 0, none⟩ = some (.int .u64 0) := by rw [eW, World.cell?_alloc_past _ _ _ hz1]; exact z0
    have c5 : W.cell? ⟨w.heap.size + 1, 1, none⟩ = some (.int .u64 0) := by rw [eW, World.cell?_alloc_past _ _ _ hz1]; exact z1
    have c6 : W.frozen? ⟨w.heap.size + 1, 0, none⟩ = false := by rw [eW, World.frozen?_alloc_past _ _ _ hz1]; exact z2
    have c7 : W.frozen? ⟨w.heap.size + 1, 1, none⟩ = false := by rw [eW, World.frozen?_alloc_past _ _ _ hz1]; exact z3
    have c8 : W.frozen? ⟨wb.heap.size, 1, none⟩ = false := by rw [eW]; simp [go_sem]
    have hBW : Below w.heap.size w W := by
      rw [eW]
      exact (((((Below.refl _ _).alloc (Nat.le_refl _) _).alloc (by simp) _)).trans (hbb.mono (by simp; omega))).alloc (by omega) _
    rw [← eW]
    clear eW z0 z1 z2 z3 z4 z5 hcb hfb hbb hsr
    have d0 : ∀ x : Ext W, x.w.cell? ⟨wb.heap.size, 0, none⟩ = some (.int .u64 (hiW q)) := fun x => x.cell c0
    have d1 : ∀ x : Ext W, x.w.cell? ⟨wb.heap.size, 1, none⟩ = some (.int .u64 (loW q)) := fun x => x.cell c1
    have d2 : ∀ x : Ext W, x.w.cell? ⟨w.heap.size, 0, none⟩ = some (.int .u64 (hiW b)) := fun x => x.cell c2
    have d3 : ∀ x : Ext W, x.w.cell? ⟨w.heap.size, 1, none⟩ = some (.int .u64 (loW b)) := fun x => x.cell c3
    have hX : Nonempty (Ext W) := Ext.some _
    refine wp_region_ext (by kernel_rfl) (by kernel_rfl) ?_
    repeat (go_big_quiet_step ((go_at_call 95; exact Calls.ext_of (hsl _))))
    refine wpQuiet_nil ?_
    rintro _ ⟨x, rfl⟩
    have y0 := x.cell c0
    have y1 := x.cell c1
    have y4 := x.cell c4
    have y5 := x.cell c5
    have y6 := x.frozen c4 c6
    have y7 := x.frozen c5 c7
    have y8 := x.frozen c1 c8
    have hBx : Below w.heap.size w x.w := hBW.trans (x.hb.mono hBW.size)
    generalize x.w = wx at *
    clear d0 d1 d2 d3 hX c0 c1 c2 c3 c4 c5 c6 c7 c8 x hBW
    go_wp2
    refine bodyPost_ret (v := .agg #[.int .u64 (hiW q), .int .u64 (loW q)]) (by simp [results, Oahg.results160, go_sem, y4, y5]) rfl ⟨rfl, ?_⟩
    exact (hBx.setCell (by simp) _).setCell (by simp) _
  · rw [HJ.out, if_neg c, (or_one_words q).1, (or_one_words q).2]
    have hq := loW_lt q
    have hor : bits .or .u64 (loW q : Int) 1 = ((loW q ||| 1 : Nat) : Int) := u64_or_nat (loW q) 1 hq (by decide)
    generalize loW q ||| 1 = L1 at *
    have hne' : b ≠ a := fun e => c (hne.1 e)
    have g1 := hi_lo a
    have g2 := hi_lo b
    by_cases cw : hiW b = hiW a
    · have b1 : ((loW b : Int) == (loW a : Int)) = false := by rw [beq_eq_false_iff_ne]; omega
      rw [cw] at hsl
      clear c hne HJ hq hne' g1 g2 cw
      go_enter Oahg.func160, Oahg.ntmps160
      go_wp2_with (go_at_call 56; refine (hsr _).mono ?_; rintro e wb ⟨rfl, hbb⟩; obtain ⟨hcb, hfb⟩ := bcell hbb; have hz0 : w.heap.size < wb.heap.size := (by have := hbb.size; simp at this; omega); have hz1 : w.heap.size + 1 < wb.heap.size := (by have := hbb.size; simp at this; omega))
      have z0 : wb.cell? ⟨w.heap.size + 1, 0, none⟩ = some (.int .u64 0) := cell_later hbb (by simp [go_sem])
      have z1 : wb.cell? ⟨w.heap.size + 1, 1, none⟩ = some (.int .u64 0) := cell_later hbb (by simp [go_sem])
      have z2 : wb.frozen? ⟨w.heap.size + 1, 0, none⟩ = false := by rw [hfb _ _ (by simp)]; simp [go_sem]
      have z3 : wb.frozen? ⟨w.heap.size + 1, 1, none⟩ = false := by rw [hfb _ _ (by simp)]; simp [go_sem]
      have z4 : wb.cell? ⟨w.heap.size, 0, none⟩ = some (.int .u64 (hiW a)) := cell_later hbb (by simp [go_sem])
      have z5 : wb.cell? ⟨w.heap.size, 1, none⟩ = some (.int .u64 (loW a)) := cell_later hbb (by simp [go_sem])
      obtain ⟨W, eW⟩ : ∃ W, W = wb.alloc (.cells #[.int .u64 (hiW q), .int .u64 (loW q)] 47) := ⟨_, rfl⟩
      have c0 : W.cell? ⟨wb.heap.size, 0, none⟩ = some (.int .u64 (hiW q)) := by rw [eW]; simp [go_sem]
      have c1 : W.cell? ⟨wb.heap.size, 1, none⟩ = some (.int .u64 (loW q)) := by rw [eW]; simp [go_sem]
      have c2 : W.cell? ⟨w.heap.size, 0, none⟩ = some (.int .u64 (hiW a)) := by rw [eW, World.cell?_alloc_past _ _ _ hz0]; exact z4
      have c3 : W.cell? ⟨w.heap.size, 1, none⟩ = some (.int .u64 (loW a)) := by rw [eW, World.cell?_alloc_past _ _ _ hz0]; exact z5
      have c4 : W.cell? ⟨w.heap.size + 1, 0, none⟩ = some (.int .u64 0) := by rw [eW, World.cell?_alloc_past _ _ _ hz1]; exact z0
      have c5 : W.cell? ⟨w.heap.size + 1, 1, none⟩ = some (.int .u64 0) := by rw [eW, World.cell?_alloc_past _ _ _ hz1]; exact z1
      have c6 : W.frozen? ⟨w.heap.size + 1, 0, none⟩ = false := by rw [eW, World.frozen?_alloc_past _ _ _ hz1]; exact z2
      have c7 : W.frozen? ⟨w.heap.size + 1, 1, none⟩ = false := by rw [eW, World.frozen?_alloc_past _ _ _ hz1]; exact z3
      have c8 : W.frozen? ⟨wb.heap.size, 1, none⟩ = false := by rw [eW]; simp [go_sem]
      have hBW : Below w.heap.size w W := by
        rw [eW]
        exact (((((Below.refl _ _).alloc (Nat.le_refl _) _).alloc (by simp) _)).trans (hbb.mono (by simp; omega))).alloc (by omega) _
      rw [← eW]
      clear eW z0 z1 z2 z3 z4 z5 hcb hfb hbb hsr
      have d0 : ∀ x : Ext W, x.w.cell? ⟨wb.heap.size, 0, none⟩ = some (.int .u64 (hiW q)) := fun x => x.cell c0
      have d1 : ∀ x : Ext W, x.w.cell? ⟨wb.heap.size, 1, none⟩ = some (.int .u64 (loW q)) := fun x => x.cell c1
      have d2 : ∀ x : Ext W, x.w.cell? ⟨w.heap.size, 0, none⟩ = some (.int .u64 (hiW a)) := fun x => x.cell c2
      have d3 : ∀ x : Ext W, x.w.cell? ⟨w.heap.size, 1, none⟩ = some (.int .u64 (loW a)) := fun x => x.cell c3
      have hX : Nonempty (Ext W) := Ext.some _
      refine wp_region_ext (by kernel_rfl) (by kernel_rfl) ?_
      repeat (go_big_quiet_step ((go_at_call 95; exact Calls.ext_of (hsl _))))
      refine wpQuiet_nil ?_
      rintro _ ⟨x, rfl⟩
      have y0 := x.cell c0
      have y1 := x.cell c1
      have y4 := x.cell c4
      have y5 := x.cell c5
      have y6 := x.frozen c4 c6
      have y7 := x.frozen c5 c7
      have y8 := x.frozen c1 c8
      have hBx : Below w.heap.size w x.w := hBW.trans (x.hb.mono hBW.size)
      generalize x.w = wx at *
      clear d0 d1 d2 d3 hX c0 c1 c2 c3 c4 c5 c6 c7 c8 x hBW
      go_wp2
      refine bodyPost_ret (v := .agg #[.int .u64 (hiW q), .int .u64 L1]) (by simp [results, Oahg.results160, go_sem, y4, y5]) rfl ⟨rfl, ?_⟩
      exact ((hBx.setCell (by show w.heap.size ≤ wb.heap.size; omega) _).setCell (by simp) _).setCell (by simp) _
    · have b1 : ((hiW b : Int) == (hiW a : Int)) = false := by rw [beq_eq_false_iff_ne]; omega
      clear c hne HJ hq hne' g1 g2 cw
      go_enter Oahg.func160, Oahg.ntmps160
      go_wp2_with (go_at_call 56; refine (hsr _).mono ?_; rintro e wb ⟨rfl, hbb⟩; obtain ⟨hcb, hfb⟩ := bcell hbb; have hz0 : w.heap.size < wb.heap.size := (by have := hbb.size; simp at this; omega); have hz1 : w.heap.size + 1 < wb.heap.size := (by have := hbb.size; simp at this; omega))
      have z0 : wb.cell? ⟨w.heap.size + 1, 0, none⟩ = some (.int .u64 0) := cell_later hbb (by simp [go_sem])
      have z1 : wb.cell? ⟨w.heap.size + 1, 1, none⟩ = some (.int .u64 0) := cell_later hbb (by simp [go_sem])
      have z2 : wb.frozen? ⟨w.heap.size + 1, 0, none⟩ = false := by rw [hfb _ _ (by simp)]; simp [go_sem]
      have z3 : wb.frozen? ⟨w.heap.size + 1, 1, none⟩ = false := by rw [hfb _ _ (by simp)]; simp [go_sem]
      have z4 : wb.cell? ⟨w.heap.size, 0, none⟩ = some (.int .u64 (hiW a)) := cell_later hbb (by simp [go_sem])
      have z5 : wb.cell? ⟨w.heap.size, 1, none⟩ = some (.int .u64 (loW a)) := cell_later hbb (by simp [go_sem])
      obtain ⟨W, eW⟩ : ∃ W, W = wb.alloc (.cells #[.int .u64 (hiW q), .int .u64 (loW q)] 47) := ⟨_, rfl⟩
      have c0 : W.cell? ⟨wb.heap.size, 0, none⟩ = some (.int .u64 (hiW q)) := by rw [eW]; simp [go_sem]
      have c1 : W.cell? ⟨wb.heap.size, 1, none⟩ = some (.int .u64 (loW q)) := by rw [eW]; simp [go_sem]
      have c2 : W.cell? ⟨w.heap.size, 0, none⟩ = some (.int .u64 (hiW a)) := by rw [eW, World.cell?_alloc_past _ _ _ hz0]; exact z4
      have c3 : W.cell? ⟨w.heap.size, 1, none⟩ = some (.int .u64 (loW a)) := by rw [eW, World.cell?_alloc_past _ _ _ hz0]; exact z5
      have c4 : W.cell? ⟨w.heap.size + 1, 0, none⟩ = some (.int .u64 0) := by rw [eW, World.cell?_alloc_past _ _ _ hz1]; exact z0
      have c5 : W.cell? ⟨w.heap.size + 1, 1, none⟩ = some (.int .u64 0) := by rw [eW, World.cell?_alloc_past _ _ _ hz1]; exact z1
      have c6 : W.frozen? ⟨w.heap.size + 1, 0, none⟩ = false := by rw [eW, World.frozen?_alloc_past _ _ _ hz1]; exact z2
      have c7 : W.frozen? ⟨w.heap.size + 1, 1, none⟩ = false := by rw [eW, World.frozen?_alloc_past _ _ _ hz1]; exact z3
      have c8 : W.frozen? ⟨wb.heap.size, 1, none⟩ = false := by rw [eW]; simp [go_sem]
      have hBW : Below w.heap.size w W := by
        rw [eW]
        exact (((((Below.refl _ _).alloc (Nat.le_refl _) _).alloc (by simp) _)).trans (hbb.mono (by simp; omega))).alloc (by omega) _
      rw [← eW]
      clear eW z0 z1 z2 z3 z4 z5 hcb hfb hbb hsr
      have d0 : ∀ x : Ext W, x.w.cell? ⟨wb.heap.size, 0, none⟩ = some (.int .u64 (hiW q)) := fun x => x.cell c0
      have d1 : ∀ x : Ext W, x.w.cell? ⟨wb.heap.size, 1, none⟩ = some (.int .u64 (loW q)) := fun x => x.cell c1
      have d2 : ∀ x : Ext W, x.w.cell? ⟨w.heap.size, 0, none⟩ = some (.int .u64 (hiW a)) := fun x => x.cell c2
      have d3 : ∀ x : Ext W, x.w.cell? ⟨w.heap.size, 1, none⟩ = some (.int .u64 (loW a)) := fun x => x.cell c3
      have hX : Nonempty (Ext W) := Ext.some _
      refine wp_region_ext (by kernel_rfl) (by kernel_rfl) ?_
      repeat (go_big_quiet_step ((go_at_call 95; exact Calls.ext_of (hsl _))))
      refine wpQuiet_nil ?_
      rintro _ ⟨x, rfl⟩
      have y0 := x.cell c0
      have y1 := x.cell c1
      have y4 := x.cell c4
      have y5 := x.cell c5
      have y6 := x.frozen c4 c6
      have y7 := x.frozen c5 c7
      have y8 := x.frozen c1 c8
      have hBx : Below w.heap.size w x.w := hBW.trans (x.hb.mono hBW.size)
      generalize x.w = wx at *
      clear d0 d1 d2 d3 hX c0 c1 c2 c3 c4 c5 c6 c7 c8 x hBW
      go_wp2
      refine bodyPost_ret (v := .agg #[.int .u64 (hiW q), .int .u64 L1]) (by simp [results, Oahg.results160, go_sem, y4, y5]) rfl ⟨rfl, ?_⟩
      exact ((hBx.setCell (by show w.heap.size ≤ wb.heap.size; omega) _).setCell (by simp) _).setCell (by simp) _
end Go.Proofs.Ygcoah
