/-
  THE WALKS OF PACKAGE soft, 5: top, numberOf.
-/
import Derived.Test.YgcoahSoft4
import Derived.Test.YgcoahUnpackA
namespace Go.Proofs.Ygcoah
open Go.RowKit

set_option maxHeartbeats 800000 in
theorem top_any (E M cl mn : Nat) (ng : Bool) (ex : Int) (w : World) (h : FOk E M) (hm : mn < 2 ^ (M + 1)) (hx1 : -1200 ≤ ex) (hx2 : ex ≤ 1100) :
    Calls Oahg.prog 55 #[.agg #[.int .u8 E, .int .u8 M], .agg #[.bool ng, .int .i8 cl, .int .i16 ex, .int .u64 mn]] w fun r w' =>
      r = .returned (.tuple #[.int .u64 (mn * 2 ^ (63 - M) : Nat), .int .i16 (ex - 63 + (M : Int))]) ∧ Below w.heap.size w w' := by
  obtain ⟨h1, h2, h3, h4⟩ := h.ints
  have hF := h
  unfold FOk at hF
  have wr : IntKind.u8.wrap (63 - (M : Int)) = ((63 - M : Nat) : Int) := by rw [IntKind.wrap_u8]; omega
  have hmn : min (63 - M) 64 = 63 - M := by omega
  have hb : mn * 2 ^ (63 - M) < 2 ^ (M + 1) * 2 ^ (63 - M) := Nat.mul_lt_mul_of_pos_right hm (pow_pos2 _)
  rw [← Nat.pow_add, show M + 1 + (63 - M) = 64 by omega] at hb
  have p64 : (2 : Nat) ^ 64 = 18446744073709551616 := by decide
  rw [p64] at hb
  have hw : IntKind.u64.wrap ((mn : Int) * 2 ^ (63 - M)) = ((mn * 2 ^ (63 - M) : Nat) : Int) := by
    rw [pow_cast, ← Int.natCast_mul]; exact wrapN _ hb
  have HE : Hid (ex - ((63 - M : Nat) : Int) = ex - 63 + (M : Int)) := by unfold Hid; omega
  have wr2 : IntKind.i16.wrap ((63 - M : Nat) : Int) = ((63 - M : Nat) : Int) := IntWalk.i16_in _ (by omega)
  have wr3 : IntKind.i16.wrap (ex - ((63 - M : Nat) : Int)) = ex - ((63 - M : Nat) : Int) := IntWalk.i16_in _ (by omega)
  generalize mn * 2 ^ (63 - M) = S at *
  generalize 63 - M = u at *
  clear hm hb p64
  go_enter Oahg.func55, Oahg.ntmps55
  go_wp2
  go_quiet (fail)
  go_wp2
  go_ret2
  exact ⟨ret_two' rfl HE.out, below_drewN (((Below.refl _ _).alloc (Nat.le_refl _) _).alloc (by simp) _) _⟩

/-- A number's man: bit 126 leads. -/
theorem num_words (M mn : Nat) (hM : M ≤ 52) (hm : mn < 2 ^ (M + 1)) : hiW (mn * 2 ^ (126 - M)) = mn * 2 ^ (63 - M) / 2 ∧ loW (mn * 2 ^ (126 - M)) = 0 ∧ mn * 2 ^ (63 - M) * 9223372036854775808 % 18446744073709551616 = 0 ∧ mn * 2 ^ (126 - M) < 170141183460469231731687303715884105728 := by
  have e1 : mn * 2 ^ (63 - M) = mn * 2 ^ (62 - M) * 2 := by rw [Nat.mul_assoc, ← Nat.pow_succ]; congr 2; omega
  have e2 : mn * 2 ^ (126 - M) = mn * 2 ^ (62 - M) * 18446744073709551616 := by
    rw [Nat.mul_assoc]; congr 1
    rw [show (18446744073709551616 : Nat) = 2 ^ 64 by decide, ← Nat.pow_add]; congr 1; omega
  have hb : mn * 2 ^ (62 - M) < 2 ^ (M + 1) * 2 ^ (62 - M) := Nat.mul_lt_mul_of_pos_right hm (pow_pos2 _)
  rw [← Nat.pow_add, show M + 1 + (62 - M) = 63 by omega, show (2 : Nat) ^ 63 = 9223372036854775808 by decide] at hb
  rw [e1, e2]
  generalize mn * 2 ^ (62 - M) = z at *
  unfold hiW loW
  refine ⟨?_, ?_, ?_, ?_⟩ <;> omega

set_option maxHeartbeats 800000 in
theorem numberOf_any (E M cl mn : Nat) (ng : Bool) (ex : Int) (w : World) (h : FOk E M) (hm : mn < 2 ^ (M + 1)) (hx1 : -1200 ≤ ex) (hx2 : ex ≤ 1100) :
    Calls Oahg.prog 133 #[.agg #[.int .u8 E, .int .u8 M], .agg #[.bool ng, .int .i8 cl, .int .i16 ex, .int .u64 mn]] w fun r w' =>
      r = .returned (.agg #[.bool ng, .int .i16 (ex - 126 + (M : Int)), .int .u64 (hiW (mn * 2 ^ (126 - M))), .int .u64 (loW (mn * 2 ^ (126 - M)))]) ∧ Below w.heap.size w w' := by
  obtain ⟨h1, h2, h3, h4⟩ := h.ints
  have hF := h
  unfold FOk at hF
  obtain ⟨e1, e2, e3, _⟩ := num_words M mn hF.2.2.2 hm
  have ht := fun w' => top_any E M cl mn ng ex w' h hm hx1 hx2
  rw [e1, e2]
  generalize mn * 2 ^ (63 - M) = S at *
  have wr3 : IntKind.i16.wrap (ex - 63 + (M : Int) - 63) = ex - 126 + (M : Int) := by rw [IntWalk.i16_in _ (by omega)]; omega
  have wr4 : IntKind.u64.wrap ((S : Int) * 9223372036854775808) = 0 := by rw [IntKind.wrap_u64]; omega
  have wr5 : (S : Int) / 2 = ((S / 2 : Nat) : Int) := by omega
  generalize ex - 126 + (M : Int) = en at *
  generalize ex - 63 + (M : Int) = em at *
  clear e1 e2 e3 hm
  generalize S / 2 = S2 at *
  have ez : ((0 : Nat) : Int) = 0 := rfl
  rw [ez]
  go_enter Oahg.func133, Oahg.ntmps133
  go_wp2_with fail
  refine (ht _).mono ?_
  rintro e w1 ⟨rfl, hb⟩
  have s0 : w1.cell? ⟨w.heap.size + 1, 0, none⟩ = some (.bool ng) := cell_later hb (by simp [go_sem])
  have hB : Below w.heap.size w w1 := (((((Below.refl _ _).alloc (Nat.le_refl _) _).alloc (by simp) _).alloc (by simp; omega) _)).trans (hb.mono (by simp; omega))
  have r0 : w1.cell? ⟨w.heap.size + 1 + 1, 0, none⟩ = some (.bool false) := cell_later hb (by simp [go_sem])
  have r1 : w1.cell? ⟨w.heap.size + 1 + 1, 1, none⟩ = some (.int .i16 0) := cell_later hb (by simp [go_sem])
  have r2 : w1.cell? ⟨w.heap.size + 1 + 1, 2, none⟩ = some (.int .u64 0) := cell_later hb (by simp [go_sem])
  have r3 : w1.cell? ⟨w.heap.size + 1 + 1, 3, none⟩ = some (.int .u64 0) := cell_later hb (by simp [go_sem])
  have q0 : w1.frozen? ⟨w.heap.size + 1 + 1, 0, none⟩ = false := by rw [hb.frozen (p := ⟨w.heap.size + 1 + 1, 0, none⟩) (by simp)]; simp [go_sem]
  have q1 : w1.frozen? ⟨w.heap.size + 1 + 1, 1, none⟩ = false := by rw [hb.frozen (p := ⟨w.heap.size + 1 + 1, 1, none⟩) (by simp)]; simp [go_sem]
  have q2 : w1.frozen? ⟨w.heap.size + 1 + 1, 2, none⟩ = false := by rw [hb.frozen (p := ⟨w.heap.size + 1 + 1, 2, none⟩) (by simp)]; simp [go_sem]
  have q3 : w1.frozen? ⟨w.heap.size + 1 + 1, 3, none⟩ = false := by rw [hb.frozen (p := ⟨w.heap.size + 1 + 1, 3, none⟩) (by simp)]; simp [go_sem]
  go_wp2
  refine bodyPost_ret (v := .agg #[.bool ng, .int .i16 en, .int .u64 S2, .int .u64 0]) (by simp [results, Oahg.results133, go_sem, r0, r1, r2, r3]) rfl ⟨rfl, ?_⟩
  exact (((hB.setCell (by simp; omega) _).setCell (by simp; omega) _).setCell (by simp; omega) _).setCell (by simp; omega) _
end Go.Proofs.Ygcoah
