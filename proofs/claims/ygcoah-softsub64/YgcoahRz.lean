/-
  THE WALKS OF PACKAGE exact: RoundFlags, where the fraction is zero.
-/
import Derived.Test.YgcoahEx11
namespace Go.Proofs.Ygcoah
open Go.RowKit
attribute [local go_sem] eqNil neNil

set_option maxRecDepth 100000 in
set_option maxHeartbeats 6400000 in
theorem round_zero {w : World} {a b : Option Addr} {n m ca cb x y : Nat} (E M mode : Nat) (neg : Bool) (h : FOk E M) (hx : NatV w (.slice a n ca) x) (hy : NatV w (.slice b m cb) y) (hy0 : 0 < y) (hz : x = 0) :
    Calls Oahg.prog 88 #[.agg #[.int .u8 E, .int .u8 M], .int .u8 mode, .agg #[.bool neg, .slice a n ca, .slice b m cb]] w fun r w' => (∃ fl : Int, r = .returned (.tuple #[.int .u64 (sgnP E M neg), .int .u8 fl])) ∧ Below w.heap.size w w' := by
  subst hz
  have hze := fun w' => ezero_any E M neg w' h
  have hmk := fun w' hb => makeRatN neg (hx.below (w' := w') hb) (hy.below hb) hy0
  go_enter Oahg.func88, Oahg.ntmps88
  go_wp2_with fail
  refine (okT _ _ _ h).mono ?_
  rintro ee wa ⟨rfl, hba⟩
  have c0 : wa.cell? ⟨w.heap.size, 0, none⟩ = some (.int .u8 E) := cell_later hba (by simp [go_sem])
  have c1 : wa.cell? ⟨w.heap.size, 1, none⟩ = some (.int .u8 M) := cell_later hba (by simp [go_sem])
  have r0 : wa.cell? ⟨w.heap.size + 1, 0, none⟩ = some (.bool neg) := cell_later hba (by simp [go_sem])
  have r1 : wa.cell? ⟨w.heap.size + 1, 1, none⟩ = some (.slice a n ca) := cell_later hba (by simp [go_sem])
  have r2 : wa.cell? ⟨w.heap.size + 1, 2, none⟩ = some (.slice b m cb) := cell_later hba (by simp [go_sem])
  have q0 : wa.frozen? ⟨w.heap.size + 1, 0, none⟩ = false := by rw [hba.frozen (p := ⟨w.heap.size + 1, 0, none⟩) (by simp)]; simp [go_sem]
  have q1 : wa.frozen? ⟨w.heap.size + 1, 1, none⟩ = false := by rw [hba.frozen (p := ⟨w.heap.size + 1, 1, none⟩) (by simp)]; simp [go_sem]
  have q2 : wa.frozen? ⟨w.heap.size + 1, 2, none⟩ = false := by rw [hba.frozen (p := ⟨w.heap.size + 1, 2, none⟩) (by simp)]; simp [go_sem]
  have hBa : Below w.heap.size w wa := (((Below.refl _ _).alloc (Nat.le_refl _) _).alloc (by simp) _).trans (hba.mono (by simp; omega))
  clear hba
  go_wp2_with fail
  refine (hmk _ hBa).mono ?_
  rintro ee wb ⟨⟨v, rfl, a3, n3, k3, a4, n4, k4, rfl, hv3, hv4⟩, hbb⟩
  have hBb := hBa.trans (hbb.mono hBa.size)
  have q0 := frozen_later hbb r0 q0
  have q1 := frozen_later hbb r1 q1
  have q2 := frozen_later hbb r2 q2
  have r0 := cell_later hbb r0
  have r1 := cell_later hbb r1
  have r2 := cell_later hbb r2
  have c0 := cell_later hbb c0
  have c1 := cell_later hbb c1
  have hnn : a3.isNone = true := by rw [hv3.isNone]; rfl
  clear hmk hBa hx hy hbb
  have hBW : Below w.heap.size w (((wb.setCell ⟨w.heap.size + 1, 0, none⟩ (.bool neg)).setCell ⟨w.heap.size + 1, 1, none⟩ (.slice a3 n3 k3)).setCell ⟨w.heap.size + 1, 2, none⟩ (.slice a4 n4 k4)) := ((hBb.setCell (by simp) _).setCell (by simp) _).setCell (by simp) _
  go_wp2_with fail
  refine (hze _).mono ?_
  rintro e w1 ⟨rfl, hb⟩
  have hB1 := hBW.trans (hb.mono hBW.size)
  go_wp2
  go_ret2
  exact ⟨⟨0, rfl⟩, hB1⟩

end Go.Proofs.Ygcoah
