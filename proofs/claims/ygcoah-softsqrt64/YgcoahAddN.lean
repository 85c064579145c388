/-
  THE WALKS OF PACKAGE soft: addFinite, neither operand zero.
-/
import Derived.Test.YgcoahAddF
namespace Go.Proofs.Ygcoah
open Go.RowKit

theorem num_big (M mn : Nat) (hM : M ≤ 52) (hm : 2 ^ M ≤ mn) : 85070591730234615865843651857942052864 ≤ mn * 2 ^ (126 - M) := by
  have h : 2 ^ M * 2 ^ (126 - M) ≤ mn * 2 ^ (126 - M) := Nat.mul_le_mul_right _ hm
  rw [← Nat.pow_add, show M + (126 - M) = 126 by omega] at h
  exact h

/-- One step more. -/
theorem below_step {W w1 w2 : World} (h : Below W.heap.size W w1) (hb : Below w1.heap.size w1 w2) : Below W.heap.size W w2 := h.trans (hb.mono h.size)

set_option maxRecDepth 100000 in
set_option maxHeartbeats 3200000 in
theorem addF_nn (E M mode ca cb ma mb : Nat) (na nb : Bool) (ea eb : Int) (w : World) (h : FOk E M) (hca : ca ≠ 0) (hcb : cb ≠ 0) (ha0 : 2 ^ M ≤ ma) (ha : ma < 2 ^ (M + 1)) (hb0 : 2 ^ M ≤ mb) (hb : mb < 2 ^ (M + 1)) (ha1 : -1200 ≤ ea) (ha2 : ea ≤ 1100) (hb1 : -1200 ≤ eb) (hb2 : eb ≤ 1100) :
    Calls Oahg.prog 81 #[.agg #[.int .u8 E, .int .u8 M], .int .u8 mode, .agg #[.bool na, .int .i8 ca, .int .i16 ea, .int .u64 ma], .agg #[.bool nb, .int .i8 cb, .int .i16 eb, .int .u64 mb]] w fun r w' =>
      (∃ fl : Int, r = .returned (.tuple #[.int .u64 (sumR E M mode na (ea - 126 + (M : Int)) (ma * 2 ^ (126 - M)) nb (eb - 126 + (M : Int)) (mb * 2 ^ (126 - M))), .int .u8 fl])) ∧ Below w.heap.size w w' := by
  have hF := h
  unfold FOk at hF
  have hn := fun (c m : Nat) (n : Bool) (e : Int) (w' : World) (g1 : m < 2 ^ (M + 1)) (g2 : -1200 ≤ e) (g3 : e ≤ 1100) => numberOf_any E M c m n e w' h g1 g2 g3
  have hs := fun w' => sum_any E M mode (ma * 2 ^ (126 - M)) (mb * 2 ^ (126 - M)) na nb (ea - 126 + (M : Int)) (eb - 126 + (M : Int)) w' h (num_words M ma hF.2.2.2 ha).2.2.2 (num_words M mb hF.2.2.2 hb).2.2.2 (num_big M ma hF.2.2.2 ha0) (num_big M mb hF.2.2.2 hb0) (by omega) (by omega) (by omega) (by omega)
  have ba : ((ca : Int) == 0) = false := by rw [beq_eq_false_iff_ne]; omega
  have bb : ((cb : Int) == 0) = false := by rw [beq_eq_false_iff_ne]; omega
  generalize sumR E M mode na (ea - 126 + (M : Int)) (ma * 2 ^ (126 - M)) nb (eb - 126 + (M : Int)) (mb * 2 ^ (126 - M)) = V at *
  clear ha0 hb0 hca hcb hF
  go_enter Oahg.func81, Oahg.ntmps81
  go_wp2
  obtain ⟨W, eW⟩ : ∃ W, W = ((w.alloc (.cells #[.int .u8 E, .int .u8 M] 23)).alloc (.cells #[.bool na, .int .i8 ca, .int .i16 ea, .int .u64 ma] 63)).alloc (.cells #[.bool nb, .int .i8 cb, .int .i16 eb, .int .u64 mb] 63) := ⟨_, rfl⟩
  have hB0 : Below w.heap.size w W := by rw [eW]; exact (((Below.refl _ _).alloc (Nat.le_refl _) _).alloc (by simp) _).alloc (by simp; omega) _
  have c0 : W.cell? ⟨w.heap.size, 0, none⟩ = some (.int .u8 E) := by rw [eW]; simp [go_sem]
  have c1 : W.cell? ⟨w.heap.size, 1, none⟩ = some (.int .u8 M) := by rw [eW]; simp [go_sem]
  have c2 : W.cell? ⟨w.heap.size + 1, 0, none⟩ = some (.bool na) := by rw [eW]; simp [go_sem]
  have c3 : W.cell? ⟨w.heap.size + 1, 1, none⟩ = some (.int .i8 ca) := by rw [eW]; simp [go_sem]
  have c4 : W.cell? ⟨w.heap.size + 1, 2, none⟩ = some (.int .i16 ea) := by rw [eW]; simp [go_sem]
  have c5 : W.cell? ⟨w.heap.size + 1, 3, none⟩ = some (.int .u64 ma) := by rw [eW]; simp [go_sem]
  have c6 : W.cell? ⟨w.heap.size + 1 + 1, 0, none⟩ = some (.bool nb) := by rw [eW]; simp [go_sem]
  have c7 : W.cell? ⟨w.heap.size + 1 + 1, 1, none⟩ = some (.int .i8 cb) := by rw [eW]; simp [go_sem]
  have c8 : W.cell? ⟨w.heap.size + 1 + 1, 2, none⟩ = some (.int .i16 eb) := by rw [eW]; simp [go_sem]
  have c9 : W.cell? ⟨w.heap.size + 1 + 1, 3, none⟩ = some (.int .u64 mb) := by rw [eW]; simp [go_sem]
  rw [← eW]
  clear eW
  go_region_held3 (fun w' => Below W.heap.size W w' ∧ w'.cell? ⟨w.heap.size, 0, none⟩ = some (.int .u8 E) ∧ w'.cell? ⟨w.heap.size, 1, none⟩ = some (.int .u8 M) ∧
      w'.cell? ⟨w.heap.size + 1, 0, none⟩ = some (.bool na) ∧ w'.cell? ⟨w.heap.size + 1, 1, none⟩ = some (.int .i8 ca) ∧ w'.cell? ⟨w.heap.size + 1, 2, none⟩ = some (.int .i16 ea) ∧ w'.cell? ⟨w.heap.size + 1, 3, none⟩ = some (.int .u64 ma) ∧
      w'.cell? ⟨w.heap.size + 1 + 1, 0, none⟩ = some (.bool nb) ∧ w'.cell? ⟨w.heap.size + 1 + 1, 1, none⟩ = some (.int .i8 cb) ∧ w'.cell? ⟨w.heap.size + 1 + 1, 2, none⟩ = some (.int .i16 eb) ∧ w'.cell? ⟨w.heap.size + 1 + 1, 3, none⟩ = some (.int .u64 mb))
    (first
      | (exact ⟨(Below.refl _ _).drew, c0, c1, c2, c3, c4, c5, c6, c7, c8, c9⟩)
      | (have hX := below_step (Below.refl W.heap.size W).drew hbx; exact ⟨hX, cell_later hX c0, cell_later hX c1, cell_later hX c2, cell_later hX c3, cell_later hX c4, cell_later hX c5, cell_later hX c6, cell_later hX c7, cell_later hX c8, cell_later hX c9⟩)
      | (obtain ⟨hX0, -⟩ := ‹Below W.heap.size W _ ∧ _›; have hX := below_step hX0 hbx; exact ⟨hX, cell_later hX c0, cell_later hX c1, cell_later hX c2, cell_later hX c3, cell_later hX c4, cell_later hX c5, cell_later hX c6, cell_later hX c7, cell_later hX c8, cell_later hX c9⟩))
    (first
      | (go_at_call 133; refine (hn _ _ _ _ _ (by assumption) (by assumption) (by assumption)).mono ?_; rintro e wx ⟨rfl, hbx⟩)
      | (go_at_call 132; refine (hs _).mono ?_; rintro e wx ⟨⟨fl, rfl⟩, hbx⟩))
  all_goals
    obtain ⟨hX0, -⟩ := ‹Below W.heap.size W _ ∧ _›
    go_wp2
    go_ret2
    exact ⟨⟨fl, rfl⟩, hB0.trans (hX0.mono hB0.size)⟩
end Go.Proofs.Ygcoah
