/-
  THE WALKS OF PACKAGE exact, 4: floor, raised.
-/
import Derived.Test.YgcoahEx2
namespace Go.Proofs.Ygcoah
open Go.RowKit
attribute [local go_sem] eqNil neNil

set_option maxHeartbeats 1600000 in
theorem floorN {w : World} {a b : Option Addr} {n m ca cb x y : Nat} (hx : NatV w (.slice a n ca) x) (hy : NatV w (.slice b m cb) y) (sx : Small x) (hy0 : 0 < y) :
    Calls Oahg.prog 149 #[.slice a n ca, .slice b m cb] w fun e w' => (∃ v, e = .returned (.tuple #[v, .agg #[.int .i8 (cmpI (2 * (x % y)) y), .bool (decide (x % y ≠ 0))]]) ∧ NatV w' v (x / y)) ∧ Below w.heap.size w w' := by
  have hdm := fun w' hb => divModN (hx.below (w' := w') hb) (hy.below hb) sx hy0
  have sr : Small (x % y) := sx.le (Nat.mod_le _ _)
  have hnb : decide (x % y ≠ 0) = !decide (x % y = 0) := by by_cases c : x % y = 0 <;> simp [c]
  obtain ⟨C, hC⟩ : ∃ C, C = cmpI (x % y * 2 ^ 1) y := ⟨_, rfl⟩
  rw [hnb, show 2 * (x % y) = x % y * 2 ^ 1 by rw [Nat.pow_one, Nat.mul_comm], ← hC]
  go_enter Oahg.func149, Oahg.ntmps149
  go_wp2_with fail
  have hB0 := (Below.refl w.heap.size w).alloc (Nat.le_refl _) (.cells #[.int .i8 0, .bool false] 83)
  refine (hdm _ hB0).mono ?_
  rintro e w1 ⟨⟨v1, v2, rfl, hv1, hv2⟩, hb1⟩
  obtain ⟨a1, n1, k1, rfl⟩ := hv1.form
  obtain ⟨a2, n2, k2, rfl⟩ := hv2.form
  have hB1 := hB0.trans (hb1.mono (by simp))
  have r0 : w1.cell? ⟨w.heap.size, 0, none⟩ = some (.int .i8 0) := cell_later hb1 (by simp [go_sem])
  have r1 : w1.cell? ⟨w.heap.size, 1, none⟩ = some (.bool false) := cell_later hb1 (by simp [go_sem])
  have q0 : w1.frozen? ⟨w.heap.size, 0, none⟩ = false := by rw [hb1.frozen (p := ⟨w.heap.size, 0, none⟩) (by simp)]; simp [go_sem]
  have q1 : w1.frozen? ⟨w.heap.size, 1, none⟩ = false := by rw [hb1.frozen (p := ⟨w.heap.size, 1, none⟩) (by simp)]; simp [go_sem]
  go_wp2_with fail
  refine (shlN hv2 sr 1 (by decide)).mono ?_
  rintro e w2 ⟨⟨v3, rfl, hv3⟩, hb2⟩
  obtain ⟨a3, n3, k3, rfl⟩ := hv3.form
  have hB2 := hB1.trans (hb2.mono hB1.size)
  have q0 := frozen_later hb2 r0 q0
  have q1 := frozen_later hb2 r1 q1
  have r0 := cell_later hb2 r0
  have r1 := cell_later hb2 r1
  have hnn : a2.isNone = decide (x % y = 0) := hv2.isNone
  go_wp2_with fail
  refine (cmpN hv3 (hy.below hB2)).mono ?_
  rintro e w3 ⟨rfl, hb3⟩
  have hB3 := hB2.trans (hb3.mono hB2.size)
  have q0 := frozen_later hb3 r0 q0
  have q1 := frozen_later hb3 r1 q1
  have r0 := cell_later hb3 r0
  have r1 := cell_later hb3 r1
  have hv1 := (hv1.below hb2).below hb3
  rw [← hC]
  clear hv3 hv2 hC
  go_wp2
  refine bodyPost_ret (v := .tuple #[.slice a1 n1 k1, .agg #[.int .i8 C, .bool (!decide (x % y = 0))]]) (by simp [results, Oahg.results149, go_sem, r0, r1]) rfl ⟨⟨_, rfl, ?_⟩, ?_⟩
  · exact (hv1.set r0 (fun _ h => by cases h) _).set (c := .bool false) (by simp [go_sem, r1]) (fun _ h => by cases h) _
  · exact (hB3.setCell (by simp) _).setCell (by simp) _

end Go.Proofs.Ygcoah
