/-
  THE WALKS OF PACKAGE exact, 5: raised.
-/
import Derived.Test.YgcoahEx4
import Derived.Test.YgcoahExt
namespace Go.Proofs.Ygcoah
open Go.RowKit

theorem bit_ext {W : World} {a : Option Addr} {n ca x : Nat} (h : NatV W (.slice a n ca) x) (y : Ext W) : Calls Oahg.prog 107 #[.slice a n ca, .int .i64 0] y.w fun e w' => e = .returned (.bool (decide (x % 2 = 1))) ∧ Below y.w.heap.size y.w w' :=
  (bitN (h.below y.hb)).mono fun _ _ ⟨he, hw⟩ => ⟨he, by rw [hw]; exact Below.refl _ _⟩

set_option maxHeartbeats 1600000 in
theorem raisedN {w : World} {a b : Option Addr} {n m ca cb x y : Nat} (mode : Nat) (neg : Bool) (hx : NatV w (.slice a n ca) x) (hy : NatV w (.slice b m cb) y) (sx : Small x) (hy0 : 0 < y) :
    Calls Oahg.prog 138 #[.int .u8 mode, .bool neg, .slice a n ca, .slice b m cb] w fun e w' =>
      (∃ (v : Value), e = .returned (.tuple #[v, .agg #[.int .i8 (cmpI (2 * (x % y)) y), .bool (decide (x % y ≠ 0))]]) ∧ NatV w' v (raisedP mode neg x y)) ∧ Below w.heap.size w w' := by
  have hfl := fun w' hb => floorN (hx.below (w' := w') hb) (hy.below hb) sx hy0
  have sq : Small (x / y) := sx.le (Nat.div_le_self _ _)
  have hra := fun w' => eraises_any mode neg (decide (x / y % 2 = 1)) (cmpI (2 * (x % y)) y) (decide (x % y ≠ 0)) w'
  unfold raisedP
  generalize cmpI (2 * (x % y)) y = C at *
  generalize decide (x % y ≠ 0) = D at *
  generalize raiseQ mode neg (decide (x / y % 2 = 1)) C D = B at *
  generalize x / y = q at *
  go_enter Oahg.func138, Oahg.ntmps138
  have hB0 := (Below.refl w.heap.size w).alloc (Nat.le_refl _) (.cells #[.int .i8 0, .bool false] 83)
  go_wp2_with fail
  refine (hfl _ hB0).mono ?_
  rintro e w1 ⟨⟨v1, rfl, hv1⟩, hb1⟩
  obtain ⟨a1, n1, k1, rfl⟩ := hv1.form
  have hB1 := hB0.trans (hb1.mono (by simp))
  have r0 : w1.cell? ⟨w.heap.size, 0, none⟩ = some (.int .i8 0) := cell_later hb1 (by simp [go_sem])
  have r1 : w1.cell? ⟨w.heap.size, 1, none⟩ = some (.bool false) := cell_later hb1 (by simp [go_sem])
  have q0 : w1.frozen? ⟨w.heap.size, 0, none⟩ = false := by rw [hb1.frozen (p := ⟨w.heap.size, 0, none⟩) (by simp)]; simp [go_sem]
  have q1 : w1.frozen? ⟨w.heap.size, 1, none⟩ = false := by rw [hb1.frozen (p := ⟨w.heap.size, 1, none⟩) (by simp)]; simp [go_sem]
  clear hfl hx hy
  go_wp2
  obtain ⟨W, eW⟩ : ∃ W, W = w1.alloc (.cells #[.int .i8 C, .bool D] 83) := ⟨_, rfl⟩
  have hbW : Below w1.heap.size w1 W := by rw [eW]; exact (Below.refl _ _).alloc (Nat.le_refl _) _
  have s0 : W.cell? ⟨w1.heap.size, 0, none⟩ = some (.int .i8 C) := by rw [eW]; simp [go_sem]
  have s1 : W.cell? ⟨w1.heap.size, 1, none⟩ = some (.bool D) := by rw [eW]; simp [go_sem]
  rw [← eW]
  clear eW
  have hBW := hB1.trans (hbW.mono hB1.size)
  have q0 := frozen_later hbW r0 q0
  have q1 := frozen_later hbW r1 q1
  have r0 := cell_later hbW r0
  have r1 := cell_later hbW r1
  have hvW := hv1.below hbW
  have hbit := bit_ext hvW
  have d0 : ∀ x : Ext W, x.w.cell? ⟨w1.heap.size, 0, none⟩ = some (.int .i8 C) := fun x => x.cell s0
  have d1 : ∀ x : Ext W, x.w.cell? ⟨w1.heap.size, 1, none⟩ = some (.bool D) := fun x => x.cell s1
  have hX : Nonempty (Ext W) := Ext.some _
  refine wp_region_ext (by kernel_rfl) (by kernel_rfl) ?_
  repeat (go_big_quiet_step (first | (go_at_call 107; exact Calls.ext_of (hbit _)) | (go_at_call 106; exact Calls.ext_of (hra _))))
  refine wpQuiet_nil ?_
  rintro _ ⟨z, rfl⟩
  have hBx : Below w.heap.size w z.w := hBW.trans (z.hb.mono hBW.size)
  have r0' := z.cell r0
  have r1' := z.cell r1
  have q0' := z.frozen r0 q0
  have q1' := z.frozen r1 q1
  have s0' := z.cell s0
  have s1' := z.cell s1
  have hvz := hvW.below z.hb
  generalize z.w = wx at *
  clear d0 d1 hX r0 r1 q0 q1 s0 s1 hv1 hb1 hbW hbit hra hvW
  have hne : w1.heap.size ≠ w.heap.size := by have : w.heap.size < w1.heap.size := World.block_lt_of_cell? _ _ r0; omega
  clear r0 r1 q0 q1
  cases B with
  | true =>
    go_wp2_with fail
    refine (succN hvz sq).mono ?_
    rintro e w2 ⟨⟨v2, rfl, hv2⟩, hb2⟩
    obtain ⟨a2, n2, k2, rfl⟩ := hv2.form
    have hB2 := hBx.trans (hb2.mono hBx.size)
    have q0 := frozen_later hb2 r0' q0'
    have q1 := frozen_later hb2 r1' q1'
    have r0 := cell_later hb2 r0'
    have r1 := cell_later hb2 r1'
    have s0 := cell_later hb2 s0'
    have s1 := cell_later hb2 s1'
    clear r0' r1' q0' q1' s0' s1'
    go_wp2
    go_region
    all_goals
      go_wp2
      refine bodyPost_ret (v := .tuple #[.slice a2 n2 k2, .agg #[.int .i8 C, .bool D]]) (by simp [results, Oahg.results138, go_sem, r0, r1]) rfl ⟨⟨_, rfl, ?_⟩, ?_⟩
      · show NatV _ _ (q + 1)
        exact ((hv2.below (Below.refl _ _).drew).set (c := .int .i8 0) (by simp [go_sem, r0]) (fun _ h => by cases h) _).set (c := .bool false) (by simp [go_sem, r1]) (fun _ h => by cases h) _
      · exact (hB2.drew.setCell (by simp) _).setCell (by simp) _
  | false =>
    go_wp2
    go_region
    all_goals
      go_wp2
      refine bodyPost_ret (v := .tuple #[.slice a1 n1 k1, .agg #[.int .i8 C, .bool D]]) (by simp [results, Oahg.results138, go_sem, r0', r1']) rfl ⟨⟨_, rfl, ?_⟩, ?_⟩
      · show NatV _ _ (q + 0)
        rw [Nat.add_zero]
        exact ((hvz.below (Below.refl _ _).drew).set (c := .int .i8 0) (by simp [go_sem, r0']) (fun _ h => by cases h) _).set (c := .bool false) (by simp [go_sem, r1']) (fun _ h => by cases h) _
      · exact (hBx.drew.setCell (by simp) _).setCell (by simp) _

end Go.Proofs.Ygcoah
