/-
  THE WALKS OF PACKAGE wide, 4: Sub.
-/
import Derived.Test.YgcoahWide3
import Derived.Deep.DrawnRows
namespace Go.Proofs.Ygcoah
open Go.RowKit
attribute [local go_sem ↓] Go.wp_at_zero Go.wp_at_succ

theorem frozen_later' {w wx : World} {a : Addr} {v : Value} (hb : Below w.heap.size w wx) (h : w.cell? a = some v) (hf : w.frozen? a = false) : wx.frozen? a = false :=
  (hb.frozen (World.block_lt_of_cell? _ _ h)).trans hf
theorem held_cell {f : World → Value} {a : Addr} {wx : World} {v : Value} (hf : ∀ w', f w' = (w'.cell? a).getD undef) (h : wx.cell? a = some v) : wx.cell? a = some (f wx) := by
  rw [hf, h]; rfl

set_option maxHeartbeats 800000 in
theorem wsub_any (a b : Nat) (w : World) (h : b ≤ a) (ha : a < 340282366920938463463374607431768211456) :
    Calls Oahg.prog 161 #[.agg #[.int .u64 (hiW a), .int .u64 (loW a)], .agg #[.int .u64 (hiW b), .int .u64 (loW b)]] w fun r w' => r = .returned (.tuple #[.agg #[.int .u64 (hiW (a - b)), .int .u64 (loW (a - b))], .bool false]) ∧ Below w.heap.size w w' := by
  have h1 := hi_lo a
  have h2 := hi_lo b
  have h3 := loW_lt a
  have h4 := loW_lt b
  have h5 := hiW_lt ha
  have h6 := loW_lt (a - b)
  have h7 := hi_lo (a - b)
  have hcmp : 0 ≤ cmpI a b := by
    have := cmpI_neg_iff a b; omega
  have hcr := cmpI_range a b
  have hcd : decide (cmpI a b < 0) = false := decide_eq_false (by omega)
  by_cases c : loW b ≤ loW a
  · have e1 : hiW (a - b) = hiW a - hiW b := by omega
    have e2 : loW (a - b) = loW a - loW b := by omega
    have w1 : IntKind.u64.wrap ((hiW a : Int) - (hiW b : Int)) = (hiW (a - b) : Int) := by rw [IntKind.wrap_u64]; omega
    have w2 : IntKind.u64.wrap ((loW a : Int) - (loW b : Int)) = (loW (a - b) : Int) := by rw [IntKind.wrap_u64]; omega
    have hcm := fun w' => wcmp_any a b w'
    generalize hiW (a - b) = H at *
    generalize loW (a - b) = L at *
    generalize cmpI a b = cc at *
    clear h1 h2 h3 h4 h5 h6 h7 e1 e2 h ha
    go_enter Oahg.func161, Oahg.ntmps161
    go_wp2
    obtain ⟨f0, hf0⟩ : ∃ f : World → Value, ∀ w', f w' = (w'.cell? ⟨w.heap.size + 1 + 1, 0, none⟩).getD undef := ⟨_, fun _ => rfl⟩
    obtain ⟨f1, hf1⟩ : ∃ f : World → Value, ∀ w', f w' = (w'.cell? ⟨w.heap.size + 1 + 1, 1, none⟩).getD undef := ⟨_, fun _ => rfl⟩
    have HF0 : Hid (∀ w', f0 w' = (w'.cell? ⟨w.heap.size + 1 + 1, 0, none⟩).getD undef) := hf0
    have HF1 : Hid (∀ w', f1 w' = (w'.cell? ⟨w.heap.size + 1 + 1, 1, none⟩).getD undef) := hf1
    clear hf0 hf1
    go_region_held3 (fun w' => w'.cell? ⟨w.heap.size, 0, none⟩ = some (.int .u64 (hiW a)) ∧ w'.cell? ⟨w.heap.size, 1, none⟩ = some (.int .u64 (loW a)) ∧ w'.cell? ⟨w.heap.size + 1, 0, none⟩ = some (.int .u64 (hiW b)) ∧ w'.cell? ⟨w.heap.size + 1, 1, none⟩ = some (.int .u64 (loW b)) ∧
        w'.cell? ⟨w.heap.size + 1 + 1, 0, none⟩ = some (f0 w') ∧ w'.cell? ⟨w.heap.size + 1 + 1, 1, none⟩ = some (f1 w') ∧ w'.frozen? ⟨w.heap.size + 1 + 1, 0, none⟩ = false ∧ w'.frozen? ⟨w.heap.size + 1 + 1, 1, none⟩ = false)
      (first
        | (refine ⟨cell_later hbc ?_, cell_later hbc ?_, cell_later hbc ?_, cell_later hbc ?_, held_cell HF0.out (v := .int .u64 0) (cell_later hbc ?_), held_cell HF1.out (v := .int .u64 0) (cell_later hbc ?_), frozen_later' (v := .int .u64 0) hbc ?_ ?_, frozen_later' (v := .int .u64 0) hbc ?_ ?_⟩ <;> simp [go_sem]; done)
        | (refine ⟨?_, ?_, ?_, ?_, held_cell HF0.out (v := .int .u64 0) ?_, held_cell HF1.out (v := .int .u64 0) ?_, ?_, ?_⟩ <;> simp [go_sem]; done)
        | (refine ⟨?_, ?_, ?_, ?_, held_cell HF0.out (v := .int .u64 H) ?_, held_cell HF1.out (v := .int .u64 L) ?_, ?_, ?_⟩ <;> simp [go_sem, *]; done))
      ((go_at_call 96; refine (hcm _).mono ?_; rintro e wc ⟨rfl, hbc⟩))
    have r0 : wc.cell? ⟨w.heap.size + 1 + 1, 0, none⟩ = some (.int .u64 0) := cell_later hbc (by simp [go_sem])
    have r1 : wc.cell? ⟨w.heap.size + 1 + 1, 1, none⟩ = some (.int .u64 0) := cell_later hbc (by simp [go_sem])
    go_wp2
    refine bodyPost_ret (v := .tuple #[.agg #[.int .u64 H, .int .u64 L], .bool false]) (by simp [results, Oahg.results161, go_sem, r0, r1]) rfl ⟨rfl, ?_⟩
    have hB : Below w.heap.size w wc := ((((Below.refl _ _).alloc (Nat.le_refl _) _).alloc (by simp) _).alloc (by simp; omega) _).drew.trans (hbc.mono (by simp; omega))
    exact (hB.setCell (by simp; omega) _).setCell (by simp; omega) _
  · have e1 : hiW (a - b) + 1 = hiW a - hiW b := by omega
    have e2 : loW (a - b) + loW b = loW a + 18446744073709551616 := by omega
    have w0 : IntKind.u64.wrap ((hiW a : Int) - (hiW b : Int)) = ((hiW a - hiW b : Nat) : Int) := by rw [IntKind.wrap_u64]; omega
    have w1 : IntKind.u64.wrap (((hiW a - hiW b : Nat) : Int) - 1) = (hiW (a - b) : Int) := by rw [IntKind.wrap_u64]; omega
    have w2 : IntKind.u64.wrap ((loW a : Int) - (loW b : Int)) = (loW (a - b) : Int) := by rw [IntKind.wrap_u64]; omega
    have hcm := fun w' => wcmp_any a b w'
    have c' : loW a < loW b := by omega
    generalize hiW a - hiW b = X at *
    generalize hiW (a - b) = H at *
    generalize loW (a - b) = L at *
    generalize cmpI a b = cc at *
    clear h1 h2 h3 h4 h5 h6 h7 e1 e2 h ha c
    go_enter Oahg.func161, Oahg.ntmps161
    go_wp2
    obtain ⟨f0, hf0⟩ : ∃ f : World → Value, ∀ w', f w' = (w'.cell? ⟨w.heap.size + 1 + 1, 0, none⟩).getD undef := ⟨_, fun _ => rfl⟩
    obtain ⟨f1, hf1⟩ : ∃ f : World → Value, ∀ w', f w' = (w'.cell? ⟨w.heap.size + 1 + 1, 1, none⟩).getD undef := ⟨_, fun _ => rfl⟩
    have HF0 : Hid (∀ w', f0 w' = (w'.cell? ⟨w.heap.size + 1 + 1, 0, none⟩).getD undef) := hf0
    have HF1 : Hid (∀ w', f1 w' = (w'.cell? ⟨w.heap.size + 1 + 1, 1, none⟩).getD undef) := hf1
    clear hf0 hf1
    go_region_held3 (fun w' => w'.cell? ⟨w.heap.size, 0, none⟩ = some (.int .u64 (hiW a)) ∧ w'.cell? ⟨w.heap.size, 1, none⟩ = some (.int .u64 (loW a)) ∧ w'.cell? ⟨w.heap.size + 1, 0, none⟩ = some (.int .u64 (hiW b)) ∧ w'.cell? ⟨w.heap.size + 1, 1, none⟩ = some (.int .u64 (loW b)) ∧
        w'.cell? ⟨w.heap.size + 1 + 1, 0, none⟩ = some (f0 w') ∧ w'.cell? ⟨w.heap.size + 1 + 1, 1, none⟩ = some (f1 w') ∧ w'.frozen? ⟨w.heap.size + 1 + 1, 0, none⟩ = false ∧ w'.frozen? ⟨w.heap.size + 1 + 1, 1, none⟩ = false)
      (first
        | (refine ⟨cell_later hbc ?_, cell_later hbc ?_, cell_later hbc ?_, cell_later hbc ?_, held_cell HF0.out (v := .int .u64 0) (cell_later hbc ?_), held_cell HF1.out (v := .int .u64 0) (cell_later hbc ?_), frozen_later' (v := .int .u64 0) hbc ?_ ?_, frozen_later' (v := .int .u64 0) hbc ?_ ?_⟩ <;> simp [go_sem]; done)
        | (refine ⟨?_, ?_, ?_, ?_, held_cell HF0.out (v := .int .u64 0) ?_, held_cell HF1.out (v := .int .u64 0) ?_, ?_, ?_⟩ <;> simp [go_sem]; done)
        | (refine ⟨?_, ?_, ?_, ?_, held_cell HF0.out (v := .int .u64 H) ?_, held_cell HF1.out (v := .int .u64 L) ?_, ?_, ?_⟩ <;> simp [go_sem, *]; done))
      ((go_at_call 96; refine (hcm _).mono ?_; rintro e wc ⟨rfl, hbc⟩))
    have r0 : wc.cell? ⟨w.heap.size + 1 + 1, 0, none⟩ = some (.int .u64 0) := cell_later hbc (by simp [go_sem])
    have r1 : wc.cell? ⟨w.heap.size + 1 + 1, 1, none⟩ = some (.int .u64 0) := cell_later hbc (by simp [go_sem])
    go_wp2
    refine bodyPost_ret (v := .tuple #[.agg #[.int .u64 H, .int .u64 L], .bool false]) (by simp [results, Oahg.results161, go_sem, r0, r1]) rfl ⟨rfl, ?_⟩
    have hB : Below w.heap.size w wc := ((((Below.refl _ _).alloc (Nat.le_refl _) _).alloc (by simp) _).alloc (by simp; omega) _).drew.trans (hbc.mono (by simp; omega))
    exact (hB.setCell (by simp; omega) _).setCell (by simp; omega) _
end Go.Proofs.Ygcoah
