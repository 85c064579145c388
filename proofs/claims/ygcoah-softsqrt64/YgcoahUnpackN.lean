/-
  THE WALKS OF PACKAGE ieee, 4: Unpack at a normal value.
-/
import Derived.Test.YgcoahUnpack
namespace Go.Proofs.Ygcoah
open Go.RowKit
attribute [local go_sem ↓] Go.wp_at_zero Go.wp_at_succ

set_option maxHeartbeats 800000 in
theorem unpack_normal (E M x : Nat) (w : World) (h : FOk E M) (hx : x < 18446744073709551616) (c1 : expOf E M x ≠ 2 ^ E - 1) (c3 : expOf E M x ≠ 0) :
    Calls Oahg.prog 50 #[.agg #[.int .u8 E, .int .u8 M], .int .u64 x] w fun r w' =>
      r = .returned (.agg #[.bool (negOf E M x), .int .i8 2, .int .i16 ((expOf E M x : Int) - (biasP E : Int) - (M : Int)), .int .u64 ((manOf M x + 2 ^ M : Nat) : Int)]) ∧ Below w.heap.size w w' := by
  obtain ⟨h1, h2, h3, h4⟩ := h.ints
  obtain ⟨p1, p2⟩ := h.ipowE
  obtain ⟨p3, p4⟩ := h.ipowM
  have fN := neg_fact E M x h hx
  have fE := exp_fact E M x h hx
  have fM := man_fact E M x h hx
  have hE := h.powE
  have hmm : manOf M x < 2 ^ M := Nat.mod_lt _ (pow_pos2 M)
  have hee : expOf E M x < 2 ^ E := Nat.mod_lt _ (pow_pos2 E)
  have iT : (2 : Int) ^ E - 1 = ((2 ^ E - 1 : Nat) : Int) := by rw [pow_cast]; omega
  generalize negOf E M x = neg at *
  generalize expOf E M x = ex at *
  generalize manOf M x = mn at *
  have HMM : Hid (mn < 2 ^ M) := hmm
  clear hmm
  have b1 : ((ex : Int) == 2 ^ E - 1) = false := by rw [beq_eq_false_iff_ne, iT]; omega
  have b3 : ((ex : Int) == 0) = false := by rw [beq_eq_false_iff_ne]; omega
  have hexl : ex ≤ 2047 := by omega
  have hE1 := h.powE1
  have hbias : biasP E ≤ 1023 := by unfold biasP; omega
  have wr0 : IntKind.i16.wrap (ex : Int) = (ex : Int) := IntWalk.i16_in _ (by omega)
  have wr1 : IntKind.i16.wrap ((ex : Int) - (biasP E : Int)) = (ex : Int) - (biasP E : Int) := IntWalk.i16_in _ (by omega)
  have wr2 : IntKind.i16.wrap (M : Int) = (M : Int) := IntWalk.i16_in _ (by omega)
  have wr3 : IntKind.i16.wrap ((ex : Int) - (biasP E : Int) - (M : Int)) = (ex : Int) - (biasP E : Int) - (M : Int) := IntWalk.i16_in _ (by omega)
  have wr4 : IntKind.u64.wrap ((2 : Int) ^ M) = 2 ^ M := IntWalk.u64_in _ (by omega)
  have hmin : min M 64 = M := by omega
  have hor : bits .or .u64 (mn : Int) (2 ^ M) = ((mn + 2 ^ M : Nat) : Int) := by
    have h5 := h.powM
    have h6 := HMM.out
    rw [pow_cast, u64_or_nat _ _ (by omega) (by omega), Nat.or_comm, nat_join M _ _ (by simp) h6, Nat.add_comm]
  generalize mn + 2 ^ M = mm at *
  clear c1 c3 hE hee iT hE1
  go_enter Oahg.func50, Oahg.ntmps50
  go_wp2_with (first | (go_at_call 18; refine (okT _ _ _ h).mono ?_; rintro e wa ⟨rfl, hba⟩; obtain ⟨hc, hf⟩ := bcell hba; have hz0 : w.heap.size < wa.heap.size := (by have := hba.size; simp at this; omega); have hz1 : w.heap.size + 1 < wa.heap.size := (by have := hba.size; simp at this; omega)) | (go_at_call 82; refine (signBit_any _ _ _ h).mono ?_; rintro e wb ⟨rfl, hbb⟩; obtain ⟨hcb, hfb⟩ := bcell hbb))
  have hB : Below w.heap.size w wb := ((((Below.refl _ _).alloc (Nat.le_refl _) _).alloc (by simp) _).trans (hba.mono (by simp; omega))).trans (hbb.mono (by omega))
  have hzb : w.heap.size + 1 < wb.heap.size := by have := hbb.size; omega
  have hzb0 : w.heap.size < wb.heap.size := by omega
  have s0 : wb.cell? ⟨w.heap.size, 0, none⟩ = some (.int .u8 E) := cell_later hbb (cell_later hba (by simp [go_sem]))
  have s1 : wb.cell? ⟨w.heap.size, 1, none⟩ = some (.int .u8 M) := cell_later hbb (cell_later hba (by simp [go_sem]))
  have r0 : wb.cell? ⟨w.heap.size + 1, 0, none⟩ = some (.bool false) := cell_later hbb (cell_later hba (by simp [go_sem]))
  have r1 : wb.cell? ⟨w.heap.size + 1, 1, none⟩ = some (.int .i8 0) := cell_later hbb (cell_later hba (by simp [go_sem]))
  have r2 : wb.cell? ⟨w.heap.size + 1, 2, none⟩ = some (.int .i16 0) := cell_later hbb (cell_later hba (by simp [go_sem]))
  have r3 : wb.cell? ⟨w.heap.size + 1, 3, none⟩ = some (.int .u64 0) := cell_later hbb (cell_later hba (by simp [go_sem]))
  have q0 : ∀ i, wb.frozen? ⟨w.heap.size + 1, i, none⟩ = false := fun i => by rw [hfb _ _ hz1, hf _ _ (by simp)]; simp [go_sem]
  have q1 := q0 0
  have q2 := q0 1
  have q3 := q0 2
  have q4 := q0 3
  clear hc hf hcb hfb q0
  go_region_with ((go_at_call 90; refine (bias_any E M _ h).mono ?_; rintro e wc ⟨rfl, hbc⟩; have s1c := cell_later (w := wb.drew) hbc s1; have r0c := cell_later (w := wb.drew) hbc r0; have r1c := cell_later (w := wb.drew) hbc r1; have r2c := cell_later (w := wb.drew) hbc r2; have r3c := cell_later (w := wb.drew) hbc r3; have q1c := frozen_later (w := wb.drew) hbc r0 q1; have q2c := frozen_later (w := wb.drew) hbc r1 q2; have q3c := frozen_later (w := wb.drew) hbc r2 q3; have q4c := frozen_later (w := wb.drew) hbc r3 q4))
  all_goals
    go_wp2
    refine bodyPost_ret (v := .agg #[.bool neg, .int .i8 2, .int .i16 ((ex : Int) - (biasP E : Int) - (M : Int)), .int .u64 (mm : Int)]) (by simp [results, Oahg.results50, go_sem, r0c, r1c, r2c, r3c]) rfl ⟨rfl, ?_⟩
    have hB2 : Below w.heap.size w wc := (hB.drew).trans (hbc.mono (by show w.heap.size ≤ wb.heap.size; omega))
    exact (((hB2.setCell (by simp) _).setCell (by simp) _).setCell (by simp) _).setCell (by simp) _
end Go.Proofs.Ygcoah
