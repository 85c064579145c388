/-
  THE WALKS OF THE TOP: soft's and exact's operation, the law.
-/
import Derived.Test.YgcoahPl7
import Derived.Test.YgcoahDivT
import Derived.Test.YgcoahExt
namespace Go.Proofs.Ygcoah
open Go.RowKit

set_option maxHeartbeats 800000 in
theorem softDiv_any (E M mode x y : Nat) (w : World) (h : FOk E M) (hx : x < 18446744073709551616) (hy : y < 18446744073709551616) :
    Calls Oahg.prog 29 #[.agg #[.int .u8 E, .int .u8 M], .int .u8 mode, .int .u64 x, .int .u64 y] w fun r w' => r = .returned (.int .u64 (divR E M mode (unp E M x) (unp E M y))) ∧ Below w.heap.size w w' := by
  have hf := fun w' => divFlags_any E M mode x y w' h hx hy
  generalize divR E M mode (unp E M x) (unp E M y) = V at *
  go_enter Oahg.func29, Oahg.ntmps29
  go_wp2_with fail
  refine (hf _).mono ?_
  rintro e w1 ⟨⟨fl, rfl⟩, hb⟩
  have hB : Below w.heap.size w w1 := ((Below.refl _ _).alloc (Nat.le_refl _) _).trans (hb.mono (by simp))
  go_wp2
  go_ret
  exact ⟨rfl, hB⟩

set_option maxHeartbeats 800000 in
theorem exactDiv_any (E M mode x y : Nat) (w : World) (h : FOk E M) (hx : x < 18446744073709551616) (hy : y < 18446744073709551616) :
    Calls Oahg.prog 33 #[.agg #[.int .u8 E, .int .u8 M], .int .u8 mode, .int .u64 x, .int .u64 y] w fun r w' => r = .returned (.int .u64 (divE E M mode x y)) ∧ Below w.heap.size w w' := by
  have hf := fun w' => divXFlags_any E M mode x y w' h hx hy
  generalize divE E M mode x y = V at *
  go_enter Oahg.func33, Oahg.ntmps33
  go_wp2_with fail
  refine (hf _).mono ?_
  rintro e w1 ⟨⟨fl, rfl⟩, hb⟩
  have hB : Below w.heap.size w w1 := ((Below.refl _ _).alloc (Nat.le_refl _) _).trans (hb.mono (by simp))
  go_wp2
  go_ret
  exact ⟨rfl, hB⟩

set_option maxHeartbeats 800000 in
theorem softBin_div (E M mode x y : Nat) (w : World) (h : FOk E M) (hx : x < 18446744073709551616) (hy : y < 18446744073709551616) :
    Calls Oahg.prog 19 #[.agg #[.int .u8 E, .int .u8 M], .int .u8 mode, .int .u8 3, .int .u64 x, .int .u64 y] w fun r w' => r = .returned (.int .u64 (divR E M mode (unp E M x) (unp E M y))) ∧ Below w.heap.size w w' := by
  have hf := fun w' => softDiv_any E M mode x y w' h hx hy
  generalize divR E M mode (unp E M x) (unp E M y) = V at *
  go_enter Oahg.func19, Oahg.ntmps19
  go_wp2_with fail
  refine (hf _).mono ?_
  rintro e w1 ⟨rfl, hb⟩
  have hB : Below w.heap.size w w1 := ((Below.refl _ _).alloc (Nat.le_refl _) _).trans (hb.mono (by simp))
  go_wp2
  go_ret
  exact ⟨rfl, hB⟩

set_option maxHeartbeats 800000 in
theorem exactBin_div (E M mode x y : Nat) (w : World) (h : FOk E M) (hx : x < 18446744073709551616) (hy : y < 18446744073709551616) :
    Calls Oahg.prog 20 #[.agg #[.int .u8 E, .int .u8 M], .int .u8 mode, .int .u8 3, .int .u64 x, .int .u64 y] w fun r w' => r = .returned (.int .u64 (divR E M mode (unp E M x) (unp E M y))) ∧ Below w.heap.size w w' := by
  have hf := fun w' => exactDiv_any E M mode x y w' h hx hy
  rw [← div_same E M mode x y h] at hf
  generalize divR E M mode (unp E M x) (unp E M y) = V at *
  go_enter Oahg.func20, Oahg.ntmps20
  go_wp2_with fail
  refine (hf _).mono ?_
  rintro e w1 ⟨rfl, hb⟩
  have hB : Below w.heap.size w w1 := ((Below.refl _ _).alloc (Nat.le_refl _) _).trans (hb.mono (by simp))
  go_wp2
  go_ret
  exact ⟨rfl, hB⟩

set_option maxRecDepth 100000 in
set_option maxHeartbeats 1600000 in
theorem law_div (E M mode x y : Nat) (w : World) (hx : x < 18446744073709551616) (hy : y < 18446744073709551616) :
    Calls Oahg.prog 13 #[.agg #[.int .u8 E, .int .u8 M], .int .u8 mode, .int .u8 3, .int .u64 x, .int .u64 y] w fun r w' => r = .returned (.bool true) ∧ Below w.heap.size w w' := by
  by_cases h : FOk E M
  · have h1 := fun w' => softBin_div E M mode x y w' h hx hy
    have h2 := fun w' => exactBin_div E M mode x y w' h hx hy
    have h3 := fun w' => okT E M w' h
    generalize divR E M mode (unp E M x) (unp E M y) = V at *
    go_enter Oahg.func13, Oahg.ntmps13
    go_wp2
    obtain ⟨W, eW⟩ : ∃ W, W = w.alloc (.cells #[.int .u8 E, .int .u8 M] 23) := ⟨_, rfl⟩
    have hB : Below w.heap.size w W := by rw [eW]; exact (Below.refl _ _).alloc (Nat.le_refl _) _
    have c0 : W.cell? ⟨w.heap.size, 0, none⟩ = some (.int .u8 E) := by rw [eW]; simp [go_sem]
    have c1 : W.cell? ⟨w.heap.size, 1, none⟩ = some (.int .u8 M) := by rw [eW]; simp [go_sem]
    rw [← eW]
    clear eW
    have d0 : ∀ x : Ext W, x.w.cell? ⟨w.heap.size, 0, none⟩ = some (.int .u8 E) := fun x => x.cell c0
    have d1 : ∀ x : Ext W, x.w.cell? ⟨w.heap.size, 1, none⟩ = some (.int .u8 M) := fun x => x.cell c1
    have hX : Nonempty (Ext W) := Ext.some _
    refine wp_region_ext (by kernel_rfl) (by kernel_rfl) ?_
    repeat (go_big_quiet_step (first | (go_at_call 18; exact Calls.ext_of (h3 _)) | (go_at_call 19; exact Calls.ext_of (h1 _)) | (go_at_call 20; exact Calls.ext_of (h2 _))))
    refine wpQuiet_nil ?_
    rintro _ ⟨z, rfl⟩
    have hBx : Below w.heap.size w z.w := hB.trans (z.hb.mono hB.size)
    generalize z.w = wx at *
    clear d0 d1 hX
    go_wp2
    go_ret
    exact ⟨rfl, hBx⟩
  · have h3 := fun w' => okF E M w' h
    go_enter Oahg.func13, Oahg.ntmps13
    go_wp2
    obtain ⟨W, eW⟩ : ∃ W, W = w.alloc (.cells #[.int .u8 E, .int .u8 M] 23) := ⟨_, rfl⟩
    have hB : Below w.heap.size w W := by rw [eW]; exact (Below.refl _ _).alloc (Nat.le_refl _) _
    have c0 : W.cell? ⟨w.heap.size, 0, none⟩ = some (.int .u8 E) := by rw [eW]; simp [go_sem]
    have c1 : W.cell? ⟨w.heap.size, 1, none⟩ = some (.int .u8 M) := by rw [eW]; simp [go_sem]
    rw [← eW]
    clear eW
    have d0 : ∀ x : Ext W, x.w.cell? ⟨w.heap.size, 0, none⟩ = some (.int .u8 E) := fun x => x.cell c0
    have d1 : ∀ x : Ext W, x.w.cell? ⟨w.heap.size, 1, none⟩ = some (.int .u8 M) := fun x => x.cell c1
    have hX : Nonempty (Ext W) := Ext.some _
    refine wp_region_ext (by kernel_rfl) (by kernel_rfl) ?_
    repeat (go_big_quiet_step ((go_at_call 18; exact Calls.ext_of (h3 _))))
    refine wpQuiet_nil ?_
    rintro _ ⟨z, rfl⟩
    have hBx : Below w.heap.size w z.w := hB.trans (z.hb.mono hB.size)
    generalize z.w = wx at *
    clear d0 d1 hX
    go_wp2
    go_ret
    exact ⟨rfl, hBx⟩

/-- 'law.Soft..' of any format and mode. -/
theorem lawF_div (E M mode x y : Nat) (w : World) (hx : x < 18446744073709551616) (hy : y < 18446744073709551616) :
    Calls Oahg.prog 5 #[.agg #[.int .u8 E, .int .u8 M], .int .u8 mode, .int .u64 x, .int .u64 y] w fun r w' => r = .returned (.bool true) ∧ Below w.heap.size w w' := by
  have hl := fun w' => law_div E M mode x y w' hx hy
  go_enter Oahg.func5, Oahg.ntmps5
  go_wp2_with fail
  refine (hl _).mono ?_
  rintro e w1 ⟨rfl, hb⟩
  have hB : Below w.heap.size w w1 := ((Below.refl _ _).alloc (Nat.le_refl _) _).trans (hb.mono (by simp))
  go_wp2
  go_ret
  exact ⟨rfl, hB⟩

/-- 'law.Soft..64'. -/
theorem law64_div (x y : Nat) (w : World) (hx : x < 18446744073709551616) (hy : y < 18446744073709551616) :
    Calls Oahg.prog 9 #[.int .u64 x, .int .u64 y] w fun r w' => r = .returned (.bool true) ∧ Below w.heap.size w w' := by
  have hl := fun w' => law_div 11 52 0 x y w' hx hy
  have e1 : ((11 : Nat) : Int) = 11 := rfl
  have e2 : ((52 : Nat) : Int) = 52 := rfl
  have e3 : ((0 : Nat) : Int) = 0 := rfl
  rw [e1, e2, e3] at hl
  go_enter Oahg.func9, Oahg.ntmps9
  go_wp2_with fail
  refine (binary64_any _).mono ?_
  rintro e w1 ⟨rfl, hb1⟩
  go_wp2_with fail
  refine (hl _).mono ?_
  rintro e w2 ⟨rfl, hb2⟩
  have hB : Below w.heap.size w w2 := hb1.trans (hb2.mono hb1.size)
  go_wp2
  go_ret
  exact ⟨rfl, hB⟩

end Go.Proofs.Ygcoah
