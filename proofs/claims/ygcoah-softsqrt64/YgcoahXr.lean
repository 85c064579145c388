/-
  THE WALKS OF PACKAGE exact: rootAt.
-/
import Derived.Test.YgcoahEx3
import Derived.Test.YgcoahEx5
import Derived.Test.YgcoahNat13
import Derived.Test.YgcoahPl5
namespace Go.Proofs.Ygcoah
open Go.RowKit

theorem sq_self_le (r : Nat) : r ≤ r * r := by
  rcases Nat.eq_zero_or_pos r with z | z
  · rw [z]; exact Nat.zero_le _
  · exact Nat.le_mul_of_pos_left r z

theorem bl_P2' (x : Nat) (k : Int) (m : Nat) (hk : k ≤ (m : Int)) : bl (x * P2 k) ≤ bl x + m := by
  unfold P2
  have := bl_shl_le x k.toNat
  omega

theorem isSqrt_div {N D n : Nat} (hD : 0 < D) (h : IsSqrt (N / D) n) : n * n * D ≤ N ∧ N < (n + 1) * (n + 1) * D := by
  constructor
  · exact Nat.le_trans (Nat.mul_le_mul_right _ h.1) (Nat.div_mul_le_self N D)
  · have := h.2
    rw [Nat.div_lt_iff_lt_mul hD] at this
    exact this

set_option maxRecDepth 100000 in
set_option maxHeartbeats 3200000 in
theorem rootAtN {w : World} {a b : Option Addr} {n m ca cb x y : Nat} (E M mode r : Nat) (neg : Bool) (e : Int) (hE : FOk E M) (hx : NatV w (.slice a n ca) x) (hy : NatV w (.slice b m cb) y) (bx : bl x ≤ 2000) (by0 : bl y ≤ 2000) (hy0 : 0 < y) (e1 : -1200 ≤ e) (e2 : e ≤ 1200)
    (hr : IsSqrt (x * P2 (2 * ((M : Int) - e)) / (y * P2 (-(2 * ((M : Int) - e))))) r) :
    Calls Oahg.prog 64 #[.agg #[.int .u8 E, .int .u8 M], .int .u8 mode, .agg #[.bool neg, .slice a n ca, .slice b m cb], .int .i64 e] w fun o w' =>
      (∃ (v : Value) (c : Int) (s : Bool), o = .returned (.tuple #[v, .agg #[.int .i8 c, .bool s]]) ∧ NatV w' v (rootRaise mode r (x * P2 (2 * ((M : Int) - e))) (y * P2 (-(2 * ((M : Int) - e)))))) ∧ Below w.heap.size w w' := by
  obtain ⟨i1, i2, i3, i4⟩ := hE.ints
  obtain ⟨k, hk⟩ : ∃ k, k = 2 * ((M : Int) - e) := ⟨_, rfl⟩
  have w1 : IntKind.i64.wrap ((M : Int) - e) = (M : Int) - e := IntWalk.i64_in _ (by omega)
  have w2 : IntKind.i64.wrap (2 * ((M : Int) - e)) = k := by rw [hk]; exact IntWalk.i64_in _ (by omega)
  rw [← hk] at hr ⊢
  have hsh := fun w' hb => shiftN k (hx.below (w' := w') hb) (hy.below hb) (Nat.le_trans bx (by decide)) (Nat.le_trans by0 (by decide)) (by omega) (by omega)
  have bN := bl_P2' x k 2600 (by omega)
  have bD := bl_P2' y (-k) 2600 (by omega)
  have pD : 0 < y * P2 (-k) := Nat.mul_pos hy0 (P2_pos _)
  clear hk
  generalize x * P2 k = N at *
  generalize y * P2 (-k) = D at *
  have sN : Small N := Nat.le_trans bN (by omega)
  have sD : Small D := Nat.le_trans bD (by omega)
  have bq : bl (N / D) ≤ 30000 := Nat.le_trans (bl_mono (Nat.div_le_self _ _)) (by omega)
  have br : bl r ≤ 5000 := Nat.le_trans (bl_mono (Nat.le_trans (sq_self_le r) (Nat.le_trans hr.1 (Nat.div_le_self _ _)))) (by omega)
  have sr : Small r := Nat.le_trans br (by decide)
  obtain ⟨T1, hT1⟩ : ∃ T1, T1 = r * 2 ^ 1 := ⟨_, rfl⟩
  obtain ⟨T2, hT2⟩ : ∃ T2, T2 = T1 + 1 := ⟨_, rfl⟩
  have b1 : bl T1 ≤ 5001 := by rw [hT1]; exact Nat.le_trans (bl_shl_le r 1) (by omega)
  have b2 : bl T2 ≤ 5002 := by rw [hT2]; exact bl_add_le T1 1 5001 b1 (by decide)
  have s1 : Small T1 := Nat.le_trans b1 (by decide)
  have s2 : Small T2 := Nat.le_trans b2 (by decide)
  have b3 : bl (T2 * T2) ≤ 10004 := Nat.le_trans (bl_mul_le _ _) (by omega)
  have s3 : Small (T2 * T2) := Nat.le_trans b3 (by decide)
  have b4 : bl (r * r) ≤ 10000 := Nat.le_trans (bl_mul_le _ _) (by omega)
  have s4 : Small (r * r) := Nat.le_trans b4 (by decide)
  obtain ⟨C, hC⟩ : ∃ C, C = cmpI (N * 2 ^ 2) (T2 * T2 * D) := ⟨_, rfl⟩
  obtain ⟨C2, hC2⟩ : ∃ C2, C2 = cmpI (r * r * D) N := ⟨_, rfl⟩
  obtain ⟨DD, hDD⟩ : ∃ DD, DD = decide (C2 ≠ 0) := ⟨_, rfl⟩
  have hne0 : (C2 != 0) = DD := by rw [hDD]; by_cases c : C2 = 0 <;> simp [c]
  have hra := fun w' => eraises_any mode false (decide (r % 2 = 1)) C DD w'
  have hRR : rootRaise mode r N D = r + if raiseQ mode false (decide (r % 2 = 1)) C DD then 1 else 0 := by
    unfold rootRaise
    rw [hC, hDD, hC2, hT2, hT1, Nat.pow_one, Nat.mul_comm r 2, show (2 : Nat) ^ 2 = 4 by decide]
  rw [hRR]
  generalize raiseQ mode false (decide (r % 2 = 1)) C DD = BB at *
  have HC : Hid (C = cmpI (N * 2 ^ 2) (T2 * T2 * D)) := hC
  have HC2 : Hid (C2 = cmpI (r * r * D) N) := hC2
  have HT1 : Hid (T1 = r * 2 ^ 1) := hT1
  have HT2 : Hid (T2 = T1 + 1) := hT2
  clear bN bD bx by0 hRR br b1 b2 b3 b4 hDD hC hC2 hT1 hT2
  go_enter Oahg.func64, Oahg.ntmps64
  go_wp2_with fail
  have hB0 : Below w.heap.size w (((w.alloc (.cells #[.int .u8 E, .int .u8 M] 23)).alloc (.cells #[.bool neg, .slice a n ca, .slice b m cb] 75)).alloc (.cells #[.int .i8 0, .bool false] 83)) := (((Below.refl _ _).alloc (Nat.le_refl _) _).alloc (by simp) _).alloc (by simp; omega) _
  refine (hsh _ hB0).mono ?_
  rintro o wa ⟨⟨v1, v2, rfl, hvN, hvD⟩, hb⟩
  obtain ⟨a1, l1, c1, rfl⟩ := hvN.form
  obtain ⟨a2, l2, c2, rfl⟩ := hvD.form
  have hB1 := hB0.trans (hb.mono (by simp; omega))
  have r0 : wa.cell? ⟨w.heap.size + 1 + 1, 0, none⟩ = some (.int .i8 0) := cell_later hb (by simp [go_sem])
  have r1 : wa.cell? ⟨w.heap.size + 1 + 1, 1, none⟩ = some (.bool false) := cell_later hb (by simp [go_sem])
  have z0 : wa.frozen? ⟨w.heap.size + 1 + 1, 0, none⟩ = false := by rw [hb.frozen (p := ⟨w.heap.size + 1 + 1, 0, none⟩) (by simp)]; simp [go_sem]
  have z1 : wa.frozen? ⟨w.heap.size + 1 + 1, 1, none⟩ = false := by rw [hb.frozen (p := ⟨w.heap.size + 1 + 1, 1, none⟩) (by simp)]; simp [go_sem]
  clear hb hsh hx hy
  go_wp2_with fail
  refine (divModN hvN hvD sN pD).mono ?_
  rintro o wb ⟨⟨v3, v4, rfl, hvq, hvr⟩, hb⟩
  obtain ⟨a3, l3, c3, rfl⟩ := hvq.form
  obtain ⟨a4, l4, c4, rfl⟩ := hvr.form
  have hB2 := hB1.trans (hb.mono hB1.size)
  replace z0 := frozen_later hb r0 z0
  replace z1 := frozen_later hb r1 z1
  replace r0 := cell_later hb r0
  replace r1 := cell_later hb r1
  replace hvN := hvN.below hb
  replace hvD := hvD.below hb
  clear hb
  go_wp2_with fail
  refine (sqrtN hvq bq hr).mono ?_
  rintro o wc ⟨⟨v5, rfl, hvs⟩, hb⟩
  obtain ⟨a5, l5, c5, rfl⟩ := hvs.form
  have hB3 := hB2.trans (hb.mono hB2.size)
  replace z0 := frozen_later hb r0 z0
  replace z1 := frozen_later hb r1 z1
  replace r0 := cell_later hb r0
  replace r1 := cell_later hb r1
  replace hvN := hvN.below hb
  replace hvD := hvD.below hb
  clear hb
  go_wp2_with fail
  refine (shlN hvs sr 1 (by decide)).mono ?_
  rintro o wd ⟨⟨v6, rfl, hv1⟩, hb⟩
  obtain ⟨a6, l6, c6, rfl⟩ := hv1.form
  rw [← HT1.out] at hv1
  have hB4 := hB3.trans (hb.mono hB3.size)
  replace z0 := frozen_later hb r0 z0
  replace z1 := frozen_later hb r1 z1
  replace r0 := cell_later hb r0
  replace r1 := cell_later hb r1
  replace hvN := hvN.below hb
  replace hvD := hvD.below hb
  replace hvs := hvs.below hb
  clear hb
  go_wp2_with fail
  refine (succN hv1 s1).mono ?_
  rintro o we ⟨⟨v7, rfl, hv2⟩, hb⟩
  obtain ⟨a7, l7, c7, rfl⟩ := hv2.form
  rw [← HT2.out] at hv2
  have hB5 := hB4.trans (hb.mono hB4.size)
  replace z0 := frozen_later hb r0 z0
  replace z1 := frozen_later hb r1 z1
  replace r0 := cell_later hb r0
  replace r1 := cell_later hb r1
  replace hvN := hvN.below hb
  replace hvD := hvD.below hb
  replace hvs := hvs.below hb
  clear hb
  go_wp2_with fail
  refine (shlN hvN sN 2 (by decide)).mono ?_
  rintro o wf ⟨⟨v8, rfl, hv4⟩, hb⟩
  obtain ⟨a8, l8, c8, rfl⟩ := hv4.form
  have hB6 := hB5.trans (hb.mono hB5.size)
  replace z0 := frozen_later hb r0 z0
  replace z1 := frozen_later hb r1 z1
  replace r0 := cell_later hb r0
  replace r1 := cell_later hb r1
  replace hvN := hvN.below hb
  replace hvD := hvD.below hb
  replace hvs := hvs.below hb
  replace hv2 := hv2.below hb
  clear hb
  go_wp2_with fail
  refine (mulN hv2 hv2 s2 s2).mono ?_
  rintro o wg ⟨⟨v9, rfl, hv5⟩, hb⟩
  obtain ⟨a9, l9, c9, rfl⟩ := hv5.form
  have hB7 := hB6.trans (hb.mono hB6.size)
  replace z0 := frozen_later hb r0 z0
  replace z1 := frozen_later hb r1 z1
  replace r0 := cell_later hb r0
  replace r1 := cell_later hb r1
  replace hvN := hvN.below hb
  replace hvD := hvD.below hb
  replace hvs := hvs.below hb
  replace hv4 := hv4.below hb
  clear hb
  go_wp2_with fail
  refine (mulN hv5 hvD s3 sD).mono ?_
  rintro o wh ⟨⟨v10, rfl, hv6⟩, hb⟩
  obtain ⟨a10, l10, c10, rfl⟩ := hv6.form
  have hB8 := hB7.trans (hb.mono hB7.size)
  replace z0 := frozen_later hb r0 z0
  replace z1 := frozen_later hb r1 z1
  replace r0 := cell_later hb r0
  replace r1 := cell_later hb r1
  replace hvN := hvN.below hb
  replace hvD := hvD.below hb
  replace hvs := hvs.below hb
  replace hv4 := hv4.below hb
  clear hb
  go_wp2_with fail
  refine (cmpN hv4 hv6).mono ?_
  rintro o wi ⟨rfl, hb⟩
  have hB9 := hB8.trans (hb.mono hB8.size)
  replace z0 := frozen_later hb r0 z0
  replace z1 := frozen_later hb r1 z1
  replace r0 := cell_later hb r0
  replace r1 := cell_later hb r1
  replace hvN := hvN.below hb
  replace hvD := hvD.below hb
  replace hvs := hvs.below hb
  clear hb
  rw [← HC.out]
  go_wp2_with fail
  refine (mulN hvs hvs sr sr).mono ?_
  rintro o wj ⟨⟨v11, rfl, hv7⟩, hb⟩
  obtain ⟨a11, l11, c11, rfl⟩ := hv7.form
  have hB10 := hB9.trans (hb.mono hB9.size)
  replace z0 := frozen_later hb r0 z0
  replace z1 := frozen_later hb r1 z1
  replace r0 := cell_later hb r0
  replace r1 := cell_later hb r1
  replace hvN := hvN.below hb
  replace hvD := hvD.below hb
  replace hvs := hvs.below hb
  clear hb
  go_wp2_with fail
  refine (mulN hv7 hvD s4 sD).mono ?_
  rintro o wk ⟨⟨v12, rfl, hv8⟩, hb⟩
  obtain ⟨a12, l12, c12, rfl⟩ := hv8.form
  have hB11 := hB10.trans (hb.mono hB10.size)
  replace z0 := frozen_later hb r0 z0
  replace z1 := frozen_later hb r1 z1
  replace r0 := cell_later hb r0
  replace r1 := cell_later hb r1
  replace hvN := hvN.below hb
  replace hvs := hvs.below hb
  clear hb
  go_wp2_with fail
  refine (cmpN hv8 hvN).mono ?_
  rintro o w1 ⟨rfl, hb⟩
  have hB12 := hB11.trans (hb.mono hB11.size)
  replace z0 := frozen_later hb r0 z0
  replace z1 := frozen_later hb r1 z1
  replace r0 := cell_later hb r0
  replace r1 := cell_later hb r1
  replace hvs := hvs.below hb
  clear hb
  rw [← HC2.out]
  clear hvN hvD hvq hvr hv1 hv2 hv4 hv5 hv6 hv7 hv8
  go_wp2
  obtain ⟨W, eW⟩ : ∃ W, W = w1.alloc (.cells #[.int .i8 C, .bool DD] 83) := ⟨_, rfl⟩
  have hbW : Below w1.heap.size w1 W := by rw [eW]; exact (Below.refl _ _).alloc (Nat.le_refl _) _
  have t0 : W.cell? ⟨w1.heap.size, 0, none⟩ = some (.int .i8 C) := by rw [eW]; simp [go_sem]
  have t1 : W.cell? ⟨w1.heap.size, 1, none⟩ = some (.bool DD) := by rw [eW]; simp [go_sem]
  rw [← eW]
  clear eW
  have hBW := hB12.trans (hbW.mono hB12.size)
  have hne : w1.heap.size ≠ w.heap.size + 1 + 1 := by have : w.heap.size + 1 + 1 < w1.heap.size := World.block_lt_of_cell? _ _ r0; omega
  replace z0 := frozen_later hbW r0 z0
  replace z1 := frozen_later hbW r1 z1
  replace r0 := cell_later hbW r0
  replace r1 := cell_later hbW r1
  replace hvs := hvs.below hbW
  have hbit := bit_ext hvs
  have d0 : ∀ x : Ext W, x.w.cell? ⟨w1.heap.size, 0, none⟩ = some (.int .i8 C) := fun x => x.cell t0
  have d1 : ∀ x : Ext W, x.w.cell? ⟨w1.heap.size, 1, none⟩ = some (.bool DD) := fun x => x.cell t1
  have hX : Nonempty (Ext W) := Ext.some _
  refine wp_region_ext (by kernel_rfl) (by kernel_rfl) ?_
  repeat (go_big_quiet_step (first | (go_at_call 107; exact Calls.ext_of (hbit _)) | (go_at_call 106; exact Calls.ext_of (hra _))))
  refine wpQuiet_nil ?_
  rintro _ ⟨z, rfl⟩
  have hBx : Below w.heap.size w z.w := hBW.trans (z.hb.mono hBW.size)
  have z0' := z.frozen r0 z0
  have z1' := z.frozen r1 z1
  have r0' := z.cell r0
  have r1' := z.cell r1
  have t0' := z.cell t0
  have t1' := z.cell t1
  have hvz := hvs.below z.hb
  generalize z.w = wx at *
  clear d0 d1 hX r0 r1 z0 z1 t0 t1 hbW hbit hra hvs
  clear hr bq sN sD s1 s2 s3 s4 hne0 HC HC2 HT1 HT2 pD hy0 i1 i2 i3 i4 e1 e2 hE hB0 hB1 hB2 hB3 hB4 hB5 hB6 hB7 hB8 hB9 hB10 hB11 hB12 hBW
  cases BB with
  | true =>
    go_wp2_with fail
    refine (succN hvz sr).mono ?_
    rintro o w2 ⟨⟨v2, rfl, hv2⟩, hb2⟩
    obtain ⟨a3, n3, k3, rfl⟩ := hv2.form
    have hB2 := hBx.trans (hb2.mono hBx.size)
    have q0 := frozen_later hb2 r0' z0'
    have q1 := frozen_later hb2 r1' z1'
    have r0 := cell_later hb2 r0'
    have r1 := cell_later hb2 r1'
    have s0 := cell_later hb2 t0'
    have s1 := cell_later hb2 t1'
    clear r0' r1' z0' z1' t0' t1'
    go_wp2
    go_region
    all_goals
      refine (‹∀ (a : Act) (w : World), Code.wp Oahg.prog Code.ret _ a w → _› _ _ (wp_ret ?_))
      show bodyPost Oahg.prog Oahg.f64 (fun o w' => (∃ (v : Value) (c : Int) (s : Bool), o = .returned (.tuple #[v, .agg #[.int .i8 c, .bool s]]) ∧ NatV w' v (r + if true = true then 1 else 0)) ∧ Below w.heap.size w w') .ret _ _
      refine bodyPost_ret (v := .tuple #[.slice a3 n3 k3, .agg #[.int .i8 C, .bool DD]]) (by simp [results, Oahg.results64, go_sem, r0, r1]) rfl ⟨⟨_, _, _, rfl, ?_⟩, ?_⟩
      · show NatV _ _ (r + 1)
        exact ((hv2.set (c := .int .i8 0) r0 (fun _ h => by cases h) _).set (c := .bool false) (by simp [go_sem, r1]) (fun _ h => by cases h) _).below (Below.refl _ _).drew
      · exact ((hB2.setCell (by simp; omega) _).setCell (by simp; omega) _).drew
  | false =>
    go_wp2
    go_region
    all_goals
      refine (‹∀ (a : Act) (w : World), Code.wp Oahg.prog Code.ret _ a w → _› _ _ (wp_ret ?_))
      show bodyPost Oahg.prog Oahg.f64 (fun o w' => (∃ (v : Value) (c : Int) (s : Bool), o = .returned (.tuple #[v, .agg #[.int .i8 c, .bool s]]) ∧ NatV w' v (r + if false = true then 1 else 0)) ∧ Below w.heap.size w w') .ret _ _
      refine bodyPost_ret (v := .tuple #[.slice a5 l5 c5, .agg #[.int .i8 C, .bool DD]]) (by simp [results, Oahg.results64, go_sem, r0', r1']) rfl ⟨⟨_, _, _, rfl, ?_⟩, ?_⟩
      · show NatV _ _ (r + 0)
        rw [Nat.add_zero]
        exact ((hvz.set (c := .int .i8 0) r0' (fun _ h => by cases h) _).set (c := .bool false) (by simp [go_sem, r1']) (fun _ h => by cases h) _).below (Below.refl _ _).drew
      · exact ((hBx.setCell (by simp; omega) _).setCell (by simp; omega) _).drew

end Go.Proofs.Ygcoah
