/-
  THE WALKS OF PACKAGE ieee, 2: subnormal.
-/
import Derived.Test.YgcoahWidth
import Derived.Deep.MidRow
import Derived.Deep.DrawnRows
namespace Go.Proofs.Ygcoah
open Go.RowKit
attribute [local go_sem ↓] Go.wp_at_zero Go.wp_at_succ

theorem frozen_later {w wx : World} {a : Addr} {v : Value} (hb : Below w.heap.size w wx) (h : w.cell? a = some v) (hf : w.frozen? a = false) : wx.frozen? a = false :=
  (hb.frozen (World.block_lt_of_cell? _ _ h)).trans hf

set_option maxHeartbeats 800000 in
theorem subnormal_any (E M mn : Nat) (neg : Bool) (w : World) (h : FOk E M) (h0 : 0 < mn) (hm : mn < 2 ^ M) :
    Calls Oahg.prog 89 #[.agg #[.int .u8 E, .int .u8 M], .bool neg, .int .u64 mn] w fun r w' =>
      r = .returned (.agg #[.bool neg, .int .i8 1, .int .i16 (1 - (biasP E : Int) - (M : Int) - ((M + 1 - bl mn : Nat) : Int)), .int .u64 ((mn * 2 ^ (M + 1 - bl mn) : Nat) : Int)]) ∧ Below w.heap.size w w' := by
  obtain ⟨h1, h2, h3, h4⟩ := h.ints
  have hpm := h.powM
  have hb1 : bl mn ≤ M := (bl_le_iff _ _).2 hm
  have hb0 := bl_pos mn h0
  have hmn : mn < 18446744073709551616 := by omega
  have hE1 := h.powE1
  have hbias : biasP E ≤ 1023 := by unfold biasP; omega
  obtain ⟨u, eu⟩ : ∃ u, u = M + 1 - bl mn := ⟨_, rfl⟩
  have eu' : (M : Int) + 1 - (bl mn : Int) = (u : Int) := by omega
  have hu : u ≤ 52 := by omega
  have HU : Hid (u = M + 1 - bl mn) := eu
  have hsh : IntKind.u64.wrap ((mn : Int) * 2 ^ u) = ((mn * 2 ^ u : Nat) : Int) := by
    have e : (mn : Int) * 2 ^ u = ((mn * 2 ^ u : Nat) : Int) := by rw [Int.natCast_mul, pow_cast]
    rw [e]
    refine wrapN _ ?_
    have h5 : mn * 2 ^ u < 2 ^ bl mn * 2 ^ u := Nat.mul_lt_mul_of_pos_right ((bl_le_iff mn _).1 (Nat.le_refl _)) (pow_pos2 u)
    have h6 : 2 ^ bl mn * 2 ^ u ≤ 2 ^ 53 := by
      rw [← Nat.pow_add]
      exact Nat.pow_le_pow_right (by decide) (by omega)
    omega
  have hmin : min u 64 = u := by omega
  have wr1 : IntKind.i16.wrap (1 - (biasP E : Int)) = 1 - (biasP E : Int) := IntWalk.i16_in _ (by omega)
  have wr2 : IntKind.i16.wrap (M : Int) = (M : Int) := IntWalk.i16_in _ (by omega)
  have wr3 : IntKind.i16.wrap (1 - (biasP E : Int) - (M : Int)) = 1 - (biasP E : Int) - (M : Int) := IntWalk.i16_in _ (by omega)
  have wr4 : IntKind.i16.wrap (u : Int) = (u : Int) := IntWalk.i16_in _ (by omega)
  have wr5 : IntKind.i16.wrap (1 - (biasP E : Int) - (M : Int) - (u : Int)) = 1 - (biasP E : Int) - (M : Int) - (u : Int) := IntWalk.i16_in _ (by omega)
  have e8 : ((mn * 2 ^ u : Nat) : Int) = (mn : Int) * 2 ^ u := by rw [Int.natCast_mul, pow_cast]
  rw [← eu]
  rw [e8] at hsh ⊢
  clear hpm hm hE1 eu e8
  go_enter Oahg.func89, Oahg.ntmps89
  go_wp2
  go_quiet ((go_at_call 139; exact Calls.quiet_of_same (width_any _ _ hmn)))
  go_wp2
  go_region_with ((go_at_call 90; refine (bias_any E M _ h).mono ?_; rintro e w2 ⟨rfl, hb2⟩; obtain ⟨hc2, hf2⟩ := bcell hb2))
  all_goals
    go_wp2
    refine bodyPost_ret (v := .agg #[.bool neg, .int .i8 1, .int .i16 (1 - (biasP E : Int) - (M : Int) - (u : Int)), .int .u64 ((mn : Int) * 2 ^ u)]) (by simp [results, Oahg.results89, go_sem, hc2]) rfl ⟨rfl, ?_⟩
    have hB : Below w.heap.size w w2 := (below_drewN (((Below.refl _ _).alloc (Nat.le_refl _) _).alloc (by simp) _) _).trans (hb2.mono (by simp; omega))
    exact (((hB.setCell (by simp) _).setCell (by simp) _).setCell (by simp) _).setCell (by simp) _
end Go.Proofs.Ygcoah
