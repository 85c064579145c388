/-
  THE WALKS OF THE TOP: soft's and exact's operation, the law.
-/
import Derived.Test.YgcoahPl8
import Derived.Test.YgcoahExt
namespace Go.Proofs.Ygcoah
open Go.RowKit

set_option maxRecDepth 100000 in
set_option maxHeartbeats 1600000 in
theorem subFlags_any (E M mode x y : Nat) (w : World) (h : FOk E M) (hx : x < 18446744073709551616) (hy : y < 18446744073709551616) :
    Calls Oahg.prog 43 #[.agg #[.int .u8 E, .int .u8 M], .int .u8 mode, .int .u64 x, .int .u64 y] w fun r w' => (∃ fl : Int, r = .returned (.tuple #[.int .u64 (addS E M mode (unp E M x) (unp E M (y ^^^ sbP E M))), .int .u8 fl])) ∧ Below w.heap.size w w' := by
  have hb := sbP_bd h
  have hxr : y ^^^ sbP E M < 18446744073709551616 := Nat.xor_lt_two_pow (n := 64) hy (by omega)
  have hbx := u64_xor_nat y (sbP E M) hy (by omega)
  have hsb := fun w' => signBit_any E M w' h
  have hf := fun w' => addFlags_any E M mode x (y ^^^ sbP E M) w' h hx hxr
  generalize addS E M mode (unp E M x) (unp E M (y ^^^ sbP E M)) = V at *
  generalize y ^^^ sbP E M = yx at *
  clear hb
  go_enter Oahg.func43, Oahg.ntmps43
  go_wp2
  obtain ⟨W, eW⟩ : ∃ W, W = w.alloc (.cells #[.int .u8 E, .int .u8 M] 23) := ⟨_, rfl⟩
  have hB : Below w.heap.size w W := by rw [eW]; exact (Below.refl _ _).alloc (Nat.le_refl _) _
  have c0 : W.cell? ⟨w.heap.size, 0, none⟩ = some (.int .u8 E) := by rw [eW]; simp [go_sem]
  have c1 : W.cell? ⟨w.heap.size, 1, none⟩ = some (.int .u8 M) := by rw [eW]; simp [go_sem]
  rw [← eW]
  clear eW
  go_region_held3 (fun w' => Below W.heap.size W w' ∧ w'.cell? ⟨w.heap.size, 0, none⟩ = some (.int .u8 E) ∧ w'.cell? ⟨w.heap.size, 1, none⟩ = some (.int .u8 M))
    (first
      | (exact ⟨(Below.refl _ _).drew, c0, c1⟩)
      | (have hX := below_step (Below.refl W.heap.size W).drew hbw; exact ⟨hX, cell_later hX c0, cell_later hX c1⟩)
      | (obtain ⟨hX0, -⟩ := ‹Below W.heap.size W _ ∧ _›; have hX := below_step hX0 hbw; exact ⟨hX, cell_later hX c0, cell_later hX c1⟩))
    (first
      | (go_at_call 82; refine (hsb _).mono ?_; rintro e wx ⟨rfl, hbw⟩)
      | (go_at_call 42; refine (hf _).mono ?_; rintro e wx ⟨⟨fl, rfl⟩, hbw⟩))
  all_goals
    obtain ⟨hX0, -⟩ := ‹Below W.heap.size W _ ∧ _›
    go_wp2
    go_ret2
    exact ⟨⟨fl, rfl⟩, hB.trans (hX0.mono hB.size)⟩

set_option maxRecDepth 100000 in
set_option maxHeartbeats 1600000 in
theorem subXFlags_any (E M mode x y : Nat) (w : World) (h : FOk E M) (hx : x < 18446744073709551616) (hy : y < 18446744073709551616) :
    Calls Oahg.prog 47 #[.agg #[.int .u8 E, .int .u8 M], .int .u8 mode, .int .u64 x, .int .u64 y] w fun r w' => (∃ fl : Int, r = .returned (.tuple #[.int .u64 (addX E M mode x (y ^^^ sbP E M)), .int .u8 fl])) ∧ Below w.heap.size w w' := by
  have hb := sbP_bd h
  have hxr : y ^^^ sbP E M < 18446744073709551616 := Nat.xor_lt_two_pow (n := 64) hy (by omega)
  have hbx := u64_xor_nat y (sbP E M) hy (by omega)
  have hsb := fun w' => signBit_any E M w' h
  have hf := fun w' => addXFlags_any E M mode x (y ^^^ sbP E M) w' h hx hxr
  generalize addX E M mode x (y ^^^ sbP E M) = V at *
  generalize y ^^^ sbP E M = yx at *
  clear hb
  go_enter Oahg.func47, Oahg.ntmps47
  go_wp2
  obtain ⟨W, eW⟩ : ∃ W, W = w.alloc (.cells #[.int .u8 E, .int .u8 M] 23) := ⟨_, rfl⟩
  have hB : Below w.heap.size w W := by rw [eW]; exact (Below.refl _ _).alloc (Nat.le_refl _) _
  have c0 : W.cell? ⟨w.heap.size, 0, none⟩ = some (.int .u8 E) := by rw [eW]; simp [go_sem]
  have c1 : W.cell? ⟨w.heap.size, 1, none⟩ = some (.int .u8 M) := by rw [eW]; simp [go_sem]
  rw [← eW]
  clear eW
  go_region_held3 (fun w' => Below W.heap.size W w' ∧ w'.cell? ⟨w.heap.size, 0, none⟩ = some (.int .u8 E) ∧ w'.cell? ⟨w.heap.size, 1, none⟩ = some (.int .u8 M))
    (first
      | (exact ⟨(Below.refl _ _).drew, c0, c1⟩)
      | (have hX := below_step (Below.refl W.heap.size W).drew hbw; exact ⟨hX, cell_later hX c0, cell_later hX c1⟩)
      | (obtain ⟨hX0, -⟩ := ‹Below W.heap.size W _ ∧ _›; have hX := below_step hX0 hbw; exact ⟨hX, cell_later hX c0, cell_later hX c1⟩))
    (first
      | (go_at_call 82; refine (hsb _).mono ?_; rintro e wx ⟨rfl, hbw⟩)
      | (go_at_call 46; refine (hf _).mono ?_; rintro e wx ⟨⟨fl, rfl⟩, hbw⟩))
  all_goals
    obtain ⟨hX0, -⟩ := ‹Below W.heap.size W _ ∧ _›
    go_wp2
    go_ret2
    exact ⟨⟨fl, rfl⟩, hB.trans (hX0.mono hB.size)⟩

set_option maxHeartbeats 800000 in
theorem softAdd_any (E M mode x y : Nat) (w : World) (h : FOk E M) (hx : x < 18446744073709551616) (hy : y < 18446744073709551616) :
    Calls Oahg.prog 26 #[.agg #[.int .u8 E, .int .u8 M], .int .u8 mode, .int .u64 x, .int .u64 y] w fun r w' => r = .returned (.int .u64 (addS E M mode (unp E M x) (unp E M y))) ∧ Below w.heap.size w w' := by
  have hf := fun w' => addFlags_any E M mode x y w' h hx hy
  generalize addS E M mode (unp E M x) (unp E M y) = V at *
  go_enter Oahg.func26, Oahg.ntmps26
  go_wp2_with fail
  refine (hf _).mono ?_
  rintro e w1 ⟨⟨fl, rfl⟩, hb⟩
  have hB : Below w.heap.size w w1 := ((Below.refl _ _).alloc (Nat.le_refl _) _).trans (hb.mono (by simp))
  go_wp2
  go_ret
  exact ⟨rfl, hB⟩

set_option maxHeartbeats 800000 in
theorem exactAdd_any (E M mode x y : Nat) (w : World) (h : FOk E M) (hx : x < 18446744073709551616) (hy : y < 18446744073709551616) :
    Calls Oahg.prog 30 #[.agg #[.int .u8 E, .int .u8 M], .int .u8 mode, .int .u64 x, .int .u64 y] w fun r w' => r = .returned (.int .u64 (addX E M mode x y)) ∧ Below w.heap.size w w' := by
  have hf := fun w' => addXFlags_any E M mode x y w' h hx hy
  generalize addX E M mode x y = V at *
  go_enter Oahg.func30, Oahg.ntmps30
  go_wp2_with fail
  refine (hf _).mono ?_
  rintro e w1 ⟨⟨fl, rfl⟩, hb⟩
  have hB : Below w.heap.size w w1 := ((Below.refl _ _).alloc (Nat.le_refl _) _).trans (hb.mono (by simp))
  go_wp2
  go_ret
  exact ⟨rfl, hB⟩

set_option maxHeartbeats 800000 in
theorem softSub_any (E M mode x y : Nat) (w : World) (h : FOk E M) (hx : x < 18446744073709551616) (hy : y < 18446744073709551616) :
    Calls Oahg.prog 27 #[.agg #[.int .u8 E, .int .u8 M], .int .u8 mode, .int .u64 x, .int .u64 y] w fun r w' => r = .returned (.int .u64 (addS E M mode (unp E M x) (unp E M (y ^^^ sbP E M)))) ∧ Below w.heap.size w w' := by
  have hf := fun w' => subFlags_any E M mode x y w' h hx hy
  generalize addS E M mode (unp E M x) (unp E M (y ^^^ sbP E M)) = V at *
  go_enter Oahg.func27, Oahg.ntmps27
  go_wp2_with fail
  refine (hf _).mono ?_
  rintro e w1 ⟨⟨fl, rfl⟩, hb⟩
  have hB : Below w.heap.size w w1 := ((Below.refl _ _).alloc (Nat.le_refl _) _).trans (hb.mono (by simp))
  go_wp2
  go_ret
  exact ⟨rfl, hB⟩

set_option maxHeartbeats 800000 in
theorem exactSub_any (E M mode x y : Nat) (w : World) (h : FOk E M) (hx : x < 18446744073709551616) (hy : y < 18446744073709551616) :
    Calls Oahg.prog 31 #[.agg #[.int .u8 E, .int .u8 M], .int .u8 mode, .int .u64 x, .int .u64 y] w fun r w' => r = .returned (.int .u64 (addX E M mode x (y ^^^ sbP E M))) ∧ Below w.heap.size w w' := by
  have hf := fun w' => subXFlags_any E M mode x y w' h hx hy
  generalize addX E M mode x (y ^^^ sbP E M) = V at *
  go_enter Oahg.func31, Oahg.ntmps31
  go_wp2_with fail
  refine (hf _).mono ?_
  rintro e w1 ⟨⟨fl, rfl⟩, hb⟩
  have hB : Below w.heap.size w w1 := ((Below.refl _ _).alloc (Nat.le_refl _) _).trans (hb.mono (by simp))
  go_wp2
  go_ret
  exact ⟨rfl, hB⟩

set_option maxHeartbeats 800000 in
theorem softBin_add (E M mode x y : Nat) (w : World) (h : FOk E M) (hx : x < 18446744073709551616) (hy : y < 18446744073709551616) :
    Calls Oahg.prog 19 #[.agg #[.int .u8 E, .int .u8 M], .int .u8 mode, .int .u8 0, .int .u64 x, .int .u64 y] w fun r w' => r = .returned (.int .u64 (addS E M mode (unp E M x) (unp E M y))) ∧ Below w.heap.size w w' := by
  have hf := fun w' => softAdd_any E M mode x y w' h hx hy
  generalize addS E M mode (unp E M x) (unp E M y) = V at *
  go_enter Oahg.func19, Oahg.ntmps19
  go_wp2_with fail
  refine (hf _).mono ?_
  rintro e w1 ⟨rfl, hb⟩
  have hB : Below w.heap.size w w1 := ((Below.refl _ _).alloc (Nat.le_refl _) _).trans (hb.mono (by simp))
  go_wp2
  go_ret
  exact ⟨rfl, hB⟩

set_option maxHeartbeats 800000 in
theorem exactBin_add (E M mode x y : Nat) (w : World) (h : FOk E M) (hx : x < 18446744073709551616) (hy : y < 18446744073709551616) :
    Calls Oahg.prog 20 #[.agg #[.int .u8 E, .int .u8 M], .int .u8 mode, .int .u8 0, .int .u64 x, .int .u64 y] w fun r w' => r = .returned (.int .u64 (addS E M mode (unp E M x) (unp E M y))) ∧ Below w.heap.size w w' := by
  have hf := fun w' => exactAdd_any E M mode x y w' h hx hy
  rw [← add_same E M mode x y h] at hf
  generalize addS E M mode (unp E M x) (unp E M y) = V at *
  go_enter Oahg.func20, Oahg.ntmps20
  go_wp2_with fail
  refine (hf _).mono ?_
  rintro e w1 ⟨rfl, hb⟩
  have hB : Below w.heap.size w w1 := ((Below.refl _ _).alloc (Nat.le_refl _) _).trans (hb.mono (by simp))
  go_wp2
  go_ret
  exact ⟨rfl, hB⟩

set_option maxRecDepth 100000 in
set_option maxHeartbeats 1600000 in
theorem law_add (E M mode x y : Nat) (w : World) (hx : x < 18446744073709551616) (hy : y < 18446744073709551616) :
    Calls Oahg.prog 13 #[.agg #[.int .u8 E, .int .u8 M], .int .u8 mode, .int .u8 0, .int .u64 x, .int .u64 y] w fun r w' => r = .returned (.bool true) ∧ Below w.heap.size w w' := by
  by_cases h : FOk E M
  · have h1 := fun w' => softBin_add E M mode x y w' h hx hy
    have h2 := fun w' => exactBin_add E M mode x y w' h hx hy
    have h3 := fun w' => okT E M w' h
    generalize addS E M mode (unp E M x) (unp E M y) = V at *
    go_enter Oahg.func13, Oahg.ntmps13
    go_wp2
    obtain ⟨W, eW⟩ : ∃ W, W = w.alloc (.cells #[.int .u8 E, .int .u8 M] 23) := ⟨_, rfl⟩
    have hB : Below w.heap.size w W := by rw [eW]; exact (Below.refl _ _).alloc (Nat.le_refl _) _
    have c0 : W.cell? ⟨w.heap.size, 0, none⟩ = some (.int .u8 E) := by rw [eW]; simp [go_sem]
    have c1 : W.cell? ⟨w.heap.size, 1, none⟩ = some (.int .u8 M) := by rw [eW]; simp [go_sem]
    rw [← eW]
    clear eW
    have d0 : ∀ x : Ext W, x.w.cell? ⟨w.heap.size, 0, none⟩ = some (.int .u8 E) := fun x => x.cell c0
    have d1 : ∀ x : Ext W, x.w.cell? ⟨w.heap.size, 1, none⟩ = some (.int .u8 M) := fun x => x.cell c1
    have hX : Nonempty (Ext W) := Ext.some _
    refine wp_region_ext (by kernel_rfl) (by kernel_rfl) ?_
    repeat (go_big_quiet_step (first | (go_at_call 18; exact Calls.ext_of (h3 _)) | (go_at_call 19; exact Calls.ext_of (h1 _)) | (go_at_call 20; exact Calls.ext_of (h2 _))))
    refine wpQuiet_nil ?_
    rintro _ ⟨z, rfl⟩
    have hBx : Below w.heap.size w z.w := hB.trans (z.hb.mono hB.size)
    generalize z.w = wx at *
    clear d0 d1 hX
    go_wp2
    go_ret
    exact ⟨rfl, hBx⟩
  · have h3 := fun w' => okF E M w' h
    go_enter Oahg.func13, Oahg.ntmps13
    go_wp2
    obtain ⟨W, eW⟩ : ∃ W, W = w.alloc (.cells #[.int .u8 E, .int .u8 M] 23) := ⟨_, rfl⟩
    have hB : Below w.heap.size w W := by rw [eW]; exact (Below.refl _ _).alloc (Nat.le_refl _) _
    have c0 : W.cell? ⟨w.heap.size, 0, none⟩ = some (.int .u8 E) := by rw [eW]; simp [go_sem]
    have c1 : W.cell? ⟨w.heap.size, 1, none⟩ = some (.int .u8 M) := by rw [eW]; simp [go_sem]
    rw [← eW]
    clear eW
    have d0 : ∀ x : Ext W, x.w.cell? ⟨w.heap.size, 0, none⟩ = some (.int .u8 E) := fun x => x.cell c0
    have d1 : ∀ x : Ext W, x.w.cell? ⟨w.heap.size, 1, none⟩ = some (.int .u8 M) := fun x => x.cell c1
    have hX : Nonempty (Ext W) := Ext.some _
    refine wp_region_ext (by kernel_rfl) (by kernel_rfl) ?_
    repeat (go_big_quiet_step ((go_at_call 18; exact Calls.ext_of (h3 _))))
    refine wpQuiet_nil ?_
    rintro _ ⟨z, rfl⟩
    have hBx : Below w.heap.size w z.w := hB.trans (z.hb.mono hB.size)
    generalize z.w = wx at *
    clear d0 d1 hX
    go_wp2
    go_ret
    exact ⟨rfl, hBx⟩

set_option maxHeartbeats 800000 in
theorem softBin_sub (E M mode x y : Nat) (w : World) (h : FOk E M) (hx : x < 18446744073709551616) (hy : y < 18446744073709551616) :
    Calls Oahg.prog 19 #[.agg #[.int .u8 E, .int .u8 M], .int .u8 mode, .int .u8 1, .int .u64 x, .int .u64 y] w fun r w' => r = .returned (.int .u64 (addS E M mode (unp E M x) (unp E M (y ^^^ sbP E M)))) ∧ Below w.heap.size w w' := by
  have hf := fun w' => softSub_any E M mode x y w' h hx hy
  generalize addS E M mode (unp E M x) (unp E M (y ^^^ sbP E M)) = V at *
  go_enter Oahg.func19, Oahg.ntmps19
  go_wp2_with fail
  refine (hf _).mono ?_
  rintro e w1 ⟨rfl, hb⟩
  have hB : Below w.heap.size w w1 := ((Below.refl _ _).alloc (Nat.le_refl _) _).trans (hb.mono (by simp))
  go_wp2
  go_ret
  exact ⟨rfl, hB⟩

set_option maxHeartbeats 800000 in
theorem exactBin_sub (E M mode x y : Nat) (w : World) (h : FOk E M) (hx : x < 18446744073709551616) (hy : y < 18446744073709551616) :
    Calls Oahg.prog 20 #[.agg #[.int .u8 E, .int .u8 M], .int .u8 mode, .int .u8 1, .int .u64 x, .int .u64 y] w fun r w' => r = .returned (.int .u64 (addS E M mode (unp E M x) (unp E M (y ^^^ sbP E M)))) ∧ Below w.heap.size w w' := by
  have hf := fun w' => exactSub_any E M mode x y w' h hx hy
  rw [← sub_same E M mode x y h] at hf
  generalize addS E M mode (unp E M x) (unp E M (y ^^^ sbP E M)) = V at *
  go_enter Oahg.func20, Oahg.ntmps20
  go_wp2_with fail
  refine (hf _).mono ?_
  rintro e w1 ⟨rfl, hb⟩
  have hB : Below w.heap.size w w1 := ((Below.refl _ _).alloc (Nat.le_refl _) _).trans (hb.mono (by simp))
  go_wp2
  go_ret
  exact ⟨rfl, hB⟩

set_option maxRecDepth 100000 in
set_option maxHeartbeats 1600000 in
theorem law_sub (E M mode x y : Nat) (w : World) (hx : x < 18446744073709551616) (hy : y < 18446744073709551616) :
    Calls Oahg.prog 13 #[.agg #[.int .u8 E, .int .u8 M], .int .u8 mode, .int .u8 1, .int .u64 x, .int .u64 y] w fun r w' => r = .returned (.bool true) ∧ Below w.heap.size w w' := by
  by_cases h : FOk E M
  · have h1 := fun w' => softBin_sub E M mode x y w' h hx hy
    have h2 := fun w' => exactBin_sub E M mode x y w' h hx hy
    have h3 := fun w' => okT E M w' h
    generalize addS E M mode (unp E M x) (unp E M (y ^^^ sbP E M)) = V at *
    go_enter Oahg.func13, Oahg.ntmps13
    go_wp2
    obtain ⟨W, eW⟩ : ∃ W, W = w.alloc (.cells #[.int .u8 E, .int .u8 M] 23) := ⟨_, rfl⟩
    have hB : Below w.heap.size w W := by rw [eW]; exact (Below.refl _ _).alloc (Nat.le_refl _) _
    have c0 : W.cell? ⟨w.heap.size, 0, none⟩ = some (.int .u8 E) := by rw [eW]; simp [go_sem]
    have c1 : W.cell? ⟨w.heap.size, 1, none⟩ = some (.int .u8 M) := by rw [eW]; simp [go_sem]
    rw [← eW]
    clear eW
    have d0 : ∀ x : Ext W, x.w.cell? ⟨w.heap.size, 0, none⟩ = some (.int .u8 E) := fun x => x.cell c0
    have d1 : ∀ x : Ext W, x.w.cell? ⟨w.heap.size, 1, none⟩ = some (.int .u8 M) := fun x => x.cell c1
    have hX : Nonempty (Ext W) := Ext.some _
    refine wp_region_ext (by kernel_rfl) (by kernel_rfl) ?_
    repeat (go_big_quiet_step (first | (go_at_call 18; exact Calls.ext_of (h3 _)) | (go_at_call 19; exact Calls.ext_of (h1 _)) | (go_at_call 20; exact Calls.ext_of (h2 _))))
    refine wpQuiet_nil ?_
    rintro _ ⟨z, rfl⟩
    have hBx : Below w.heap.size w z.w := hB.trans (z.hb.mono hB.size)
    generalize z.w = wx at *
    clear d0 d1 hX
    go_wp2
    go_ret
    exact ⟨rfl, hBx⟩
  · have h3 := fun w' => okF E M w' h
    go_enter Oahg.func13, Oahg.ntmps13
    go_wp2
    obtain ⟨W, eW⟩ : ∃ W, W = w.alloc (.cells #[.int .u8 E, .int .u8 M] 23) := ⟨_, rfl⟩
    have hB : Below w.heap.size w W := by rw [eW]; exact (Below.refl _ _).alloc (Nat.le_refl _) _
    have c0 : W.cell? ⟨w.heap.size, 0, none⟩ = some (.int .u8 E) := by rw [eW]; simp [go_sem]
    have c1 : W.cell? ⟨w.heap.size, 1, none⟩ = some (.int .u8 M) := by rw [eW]; simp [go_sem]
    rw [← eW]
    clear eW
    have d0 : ∀ x : Ext W, x.w.cell? ⟨w.heap.size, 0, none⟩ = some (.int .u8 E) := fun x => x.cell c0
    have d1 : ∀ x : Ext W, x.w.cell? ⟨w.heap.size, 1, none⟩ = some (.int .u8 M) := fun x => x.cell c1
    have hX : Nonempty (Ext W) := Ext.some _
    refine wp_region_ext (by kernel_rfl) (by kernel_rfl) ?_
    repeat (go_big_quiet_step ((go_at_call 18; exact Calls.ext_of (h3 _))))
    refine wpQuiet_nil ?_
    rintro _ ⟨z, rfl⟩
    have hBx : Below w.heap.size w z.w := hB.trans (z.hb.mono hB.size)
    generalize z.w = wx at *
    clear d0 d1 hX
    go_wp2
    go_ret
    exact ⟨rfl, hBx⟩

/-- 'law.Soft..' of any format and mode. -/
theorem lawF_sub (E M mode x y : Nat) (w : World) (hx : x < 18446744073709551616) (hy : y < 18446744073709551616) :
    Calls Oahg.prog 3 #[.agg #[.int .u8 E, .int .u8 M], .int .u8 mode, .int .u64 x, .int .u64 y] w fun r w' => r = .returned (.bool true) ∧ Below w.heap.size w w' := by
  have hl := fun w' => law_sub E M mode x y w' hx hy
  go_enter Oahg.func3, Oahg.ntmps3
  go_wp2_with fail
  refine (hl _).mono ?_
  rintro e w1 ⟨rfl, hb⟩
  have hB : Below w.heap.size w w1 := ((Below.refl _ _).alloc (Nat.le_refl _) _).trans (hb.mono (by simp))
  go_wp2
  go_ret
  exact ⟨rfl, hB⟩

/-- 'law.Soft..64'. -/
theorem law64_add (x y : Nat) (w : World) (hx : x < 18446744073709551616) (hy : y < 18446744073709551616) :
    Calls Oahg.prog 6 #[.int .u64 x, .int .u64 y] w fun r w' => r = .returned (.bool true) ∧ Below w.heap.size w w' := by
  have hl := fun w' => law_add 11 52 0 x y w' hx hy
  have e1 : ((11 : Nat) : Int) = 11 := rfl
  have e2 : ((52 : Nat) : Int) = 52 := rfl
  have e3 : ((0 : Nat) : Int) = 0 := rfl
  rw [e1, e2, e3] at hl
  go_enter Oahg.func6, Oahg.ntmps6
  go_wp2_with fail
  refine (binary64_any _).mono ?_
  rintro e w1 ⟨rfl, hb1⟩
  go_wp2_with fail
  refine (hl _).mono ?_
  rintro e w2 ⟨rfl, hb2⟩
  have hB : Below w.heap.size w w2 := hb1.trans (hb2.mono hb1.size)
  go_wp2
  go_ret
  exact ⟨rfl, hB⟩

/-- 'law.Soft..64'. -/
theorem law64_sub (x y : Nat) (w : World) (hx : x < 18446744073709551616) (hy : y < 18446744073709551616) :
    Calls Oahg.prog 7 #[.int .u64 x, .int .u64 y] w fun r w' => r = .returned (.bool true) ∧ Below w.heap.size w w' := by
  have hl := fun w' => law_sub 11 52 0 x y w' hx hy
  have e1 : ((11 : Nat) : Int) = 11 := rfl
  have e2 : ((52 : Nat) : Int) = 52 := rfl
  have e3 : ((0 : Nat) : Int) = 0 := rfl
  rw [e1, e2, e3] at hl
  go_enter Oahg.func7, Oahg.ntmps7
  go_wp2_with fail
  refine (binary64_any _).mono ?_
  rintro e w1 ⟨rfl, hb1⟩
  go_wp2_with fail
  refine (hl _).mono ?_
  rintro e w2 ⟨rfl, hb2⟩
  have hB : Below w.heap.size w w2 := hb1.trans (hb2.mono hb1.size)
  go_wp2
  go_ret
  exact ⟨rfl, hB⟩

end Go.Proofs.Ygcoah
