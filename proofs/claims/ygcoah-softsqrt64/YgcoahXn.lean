/-
  THE WALKS OF PACKAGE exact: SqrtFlags, of a positive number whose root is not tiny.
-/
import Derived.Test.YgcoahXs
import Derived.Test.YgcoahXr
import Derived.Test.YgcoahEx11
namespace Go.Proofs.Ygcoah
open Go.RowKit

set_option maxRecDepth 100000 in
set_option maxHeartbeats 3200000 in
theorem sqrtX_num (E M mode x : Nat) (r : Nat) (rl : Int) (w : World) (h : FOk E M) (hx : x < 18446744073709551616) (hc : (unp E M x).cls = 1 ∨ (unp E M x).cls = 2) (hn : negOf E M x = false)
    (hL : lgC (opN (unp E M x)) (opD (unp E M x)) (2 * eminI E - 200) (2 * (biasP E : Int)) / 2 = rl) (f0 : eminI E ≤ rl) (f00 : rl ≤ (biasP E : Int)) (hr : IsSqrt (opN (unp E M x) * P2 (2 * ((M : Int) - rl)) / (opD (unp E M x) * P2 (-(2 * ((M : Int) - rl))))) r)
    (hle : rootRaise mode r (opN (unp E M x) * P2 (2 * ((M : Int) - rl))) (opD (unp E M x) * P2 (-(2 * ((M : Int) - rl)))) ≤ 2 ^ (M + 1)) :
    Calls Oahg.prog 35 #[.agg #[.int .u8 E, .int .u8 M], .int .u8 mode, .int .u64 x] w fun o w' =>
      (∃ fl : Int, o = .returned (.tuple #[.int .u64 (packP E M mode false rl (rootRaise mode r (opN (unp E M x) * P2 (2 * ((M : Int) - rl))) (opD (unp E M x) * P2 (-(2 * ((M : Int) - rl)))))), .int .u8 fl])) ∧ Below w.heap.size w w' := by
  have fx := unp_facts E M x h
  have zx := op_sizes E M x h
  have hox := fun w' => open_any E M x w' h hx
  obtain ⟨V, hV⟩ : ∃ V, V = packP E M mode false rl (rootRaise mode r (opN (unp E M x) * P2 (2 * ((M : Int) - rl))) (opD (unp E M x) * P2 (-(2 * ((M : Int) - rl))))) := ⟨_, rfl⟩
  rw [← hV]
  have hbi := biasP_bd h
  have hem0 : eminI E = 1 - (biasP E : Int) := rfl
  have hem := fun w' => emin_any E M w' h
  have hemx := fun w' => emax_any E M w' h
  have hM53 : 2 ^ (M + 1) ≤ 9007199254740992 := by
    have := Nat.pow_le_pow_right (n := 2) (by decide) (show M + 1 ≤ 53 by have := h.2.2.2; omega)
    simpa using this
  have hrt := fun (w' : World) (a' b' : Option Addr) (n' ca' m' cb' : Nat) (ng : Bool) (h1 : NatV w' (.slice a' n' ca') (opN (unp E M x))) (h2 : NatV w' (.slice b' m' cb') (opD (unp E M x))) => rootAtN E M mode r ng rl h h1 h2 (by omega) (by omega) zx.2.2 (by omega) (by omega) hr
  obtain ⟨RR, hRR⟩ : ∃ RR, RR = rootRaise mode r (opN (unp E M x) * P2 (2 * ((M : Int) - rl))) (opD (unp E M x) * P2 (-(2 * ((M : Int) - rl)))) := ⟨_, rfl⟩
  rw [← hRR] at hle hV hrt
  have hpk := fun (c' : Int) (s' t' : Bool) (w' : World) => pack_any E M mode false rl RR c' s' t' w' h f0 f00 hle
  rw [← hV] at hpk
  have hlg := fun (w' : World) (a' b' : Option Addr) (n' ca' m' cb' : Nat) (h1 : NatV w' (.slice a' n' ca') (opN (unp E M x))) (h2 : NatV w' (.slice b' m' cb') (opD (unp E M x))) => log2N (2 * eminI E - 200) (2 * (biasP E : Int)) h1 h2 (Nat.le_trans zx.1 (by decide)) (Nat.le_trans zx.2.1 (by decide)) (by omega) (by omega) (by omega) (by omega)
  obtain ⟨LL, hLL⟩ : ∃ LL, LL = lgC (opN (unp E M x)) (opD (unp E M x)) (2 * eminI E - 200) (2 * (biasP E : Int)) := ⟨_, rfl⟩
  rw [← hLL] at hlg hL
  have v1 : IntKind.i64.wrap (2 * eminI E) = 2 * eminI E := IntWalk.i64_in _ (by omega)
  have v2 : IntKind.i64.wrap (2 * eminI E - 200) = 2 * eminI E - 200 := IntWalk.i64_in _ (by omega)
  have v3 : IntKind.i64.wrap (2 * (biasP E : Int)) = 2 * (biasP E : Int) := IntWalk.i64_in _ (by omega)
  have v4 : IntKind.i64.wrap (eminI E - 1) = eminI E - 1 := IntWalk.i64_in _ (by omega)
  have f1 : decide (rl < eminI E) = false := decide_eq_false (by omega)
  have f3 : (rl == eminI E - 1) = false := by rw [beq_eq_false_iff_ne]; omega
  obtain ⟨lo, hlo⟩ : ∃ lo, lo = 2 * eminI E - 200 := ⟨_, rfl⟩
  obtain ⟨hi, hhi⟩ : ∃ hi, hi = 2 * (biasP E : Int) := ⟨_, rfl⟩
  rw [← hlo, ← hhi] at hlg
  rw [← hhi] at v3
  have v2' : IntKind.i64.wrap (2 * eminI E - 200) = lo := by rw [hlo]; exact v2
  have v3' : IntKind.i64.wrap (2 * (biasP E : Int)) = hi := by rw [hhi]; exact IntWalk.i64_in _ (by omega)
  clear hV hRR hLL v2 v3 hlo hhi hem0 hr hbi
  unfold OpV at hox
  generalize cutP E M x = X1 at *
  generalize negOf E M x = n1 at *
  generalize opS (unp E M x) = sg1 at *
  generalize opN (unp E M x) = N1 at *
  generalize opD (unp E M x) = D1 at *
  obtain ⟨fx, -, -, -⟩ := fx
  generalize (unp E M x).cls = k1 at *
  go_enter Oahg.func35, Oahg.ntmps35
  go_wp2_with fail
  refine (okT _ _ _ h).mono ?_
  rintro e wa ⟨rfl, hba⟩
  have c0 : wa.cell? ⟨w.heap.size, 0, none⟩ = some (.int .u8 E) := cell_later hba (by simp [go_sem])
  have c1 : wa.cell? ⟨w.heap.size, 1, none⟩ = some (.int .u8 M) := cell_later hba (by simp [go_sem])
  have hBa : Below w.heap.size w wa := ((Below.refl _ _).alloc (Nat.le_refl _) _).trans (hba.mono (by simp))
  clear hba
  go_wp2_with fail
  refine (hox _).mono ?_
  rintro e wb ⟨⟨v, rfl, a1, l1, q1, a2, l2, q2, rfl, hN, hD⟩, hbb⟩
  have hBb := hBa.trans (hbb.mono hBa.size)
  have c0 := cell_later hbb c0
  have c1 := cell_later hbb c1
  clear hox
  obtain ⟨W, eW⟩ : ∃ W, W = wb.alloc (.cells #[.int .u64 X1, .bool n1, .int .i8 k1, .bool sg1, .slice a1 l1 q1, .slice a2 l2 q2] 77) := ⟨_, rfl⟩
  have hb : Below wb.heap.size wb W := by rw [eW]; exact (Below.refl _ _).alloc (Nat.le_refl _) _
  have hB := hBb.trans (hb.mono hBb.size)
  have c0 := cell_later hb c0
  have c1 := cell_later hb c1
  have hN := hN.below hb
  have hD := hD.below hb
  have x0 : W.cell? ⟨wb.heap.size, 0, none⟩ = some (.int .u64 X1) := by rw [eW]; simp [go_sem]
  have x1 : W.cell? ⟨wb.heap.size, 1, none⟩ = some (.bool n1) := by rw [eW]; simp [go_sem]
  have x2 : W.cell? ⟨wb.heap.size, 2, none⟩ = some (.int .i8 k1) := by rw [eW]; simp [go_sem]
  have x3 : W.cell? ⟨wb.heap.size, 3, none⟩ = some (.bool sg1) := by rw [eW]; simp [go_sem]
  have x4 : W.cell? ⟨wb.heap.size, 4, none⟩ = some (.slice a1 l1 q1) := by rw [eW]; simp [go_sem]
  have x5 : W.cell? ⟨wb.heap.size, 5, none⟩ = some (.slice a2 l2 q2) := by rw [eW]; simp [go_sem]
  clear hb hbb hBa hBb
  subst hn
  have b4 : ((k1 : Int) == 4) = false := by rw [beq_eq_false_iff_ne]; omega
  have b0 : ((k1 : Int) == 0) = false := by rw [beq_eq_false_iff_ne]; omega
  have b3 : ((k1 : Int) == 3) = false := by rw [beq_eq_false_iff_ne]; omega
  clear hc fx zx
  subst eW
  go_wp2
  generalize wb.alloc (.cells #[.int .u64 X1, .bool false, .int .i8 k1, .bool sg1, .slice a1 l1 q1, .slice a2 l2 q2] 77) = W at *
  have hlg := fun (x' : Ext W) => hlg _ _ _ _ _ _ _ (hN.below x'.hb) (hD.below x'.hb)
  have d0 : ∀ x : Ext W, x.w.cell? ⟨w.heap.size, 0, none⟩ = some (.int .u8 E) := fun x => x.cell c0
  have d1 : ∀ x : Ext W, x.w.cell? ⟨w.heap.size, 1, none⟩ = some (.int .u8 M) := fun x => x.cell c1
  have d2 : ∀ x : Ext W, x.w.cell? ⟨wb.heap.size, 4, none⟩ = some (.slice a1 l1 q1) := fun x => x.cell x4
  have d3 : ∀ x : Ext W, x.w.cell? ⟨wb.heap.size, 5, none⟩ = some (.slice a2 l2 q2) := fun x => x.cell x5
  have hX : Nonempty (Ext W) := Ext.some _
  refine wp_region_ext (by kernel_rfl) (by kernel_rfl) ?_
  repeat (go_big_quiet_step (first | (go_at_call 62; exact Calls.ext_of (hem _)) | (go_at_call 63; exact Calls.ext_of (hemx _)) | (go_at_call 61; exact Calls.ext_of (hlg _))))
  refine wpQuiet_nil ?_
  rintro _ ⟨z, rfl⟩
  have hB1 : Below w.heap.size w z.w := hB.trans (z.hb.mono hB.size)
  have c0 := z.cell c0
  have c1 := z.cell c1
  have x3 := z.cell x3
  have x4 := z.cell x4
  have x5 := z.cell x5
  have hN := hN.below z.hb
  have hD := hD.below z.hb
  generalize z.w = wx at *
  generalize wb.heap.size = bp at *
  clear d0 d1 d2 d3 hX hlg hB x0 x1 x2
  go_wp2_with fail
  refine (hem _).mono ?_
  rintro ee w2 ⟨rfl, hb⟩
  have hB2 := hB1.trans (hb.mono hB1.size)
  have c0 := cell_later hb c0
  have c1 := cell_later hb c1
  have x3 := cell_later hb x3
  have x4 := cell_later hb x4
  have x5 := cell_later hb x5
  have hN := hN.below hb
  have hD := hD.below hb
  clear hb
  go_wp2_with fail
  refine (hrt _ _ _ _ _ _ _ _ hN hD).mono ?_
  rintro ee w5 ⟨⟨v7, C1, D1', rfl, hv7⟩, hb⟩
  obtain ⟨a7, n7, k7, rfl⟩ := hv7.form
  have hB5 := hB2.trans (hb.mono hB2.size)
  have c0 := cell_later hb c0
  have c1 := cell_later hb c1
  clear hb hN hD x3 x4 x5 hrt
  obtain ⟨w6, ew6⟩ : ∃ w6, w6 = w5.alloc (.cells #[.int .i8 C1, .bool D1'] 83) := ⟨_, rfl⟩
  have hb : Below w5.heap.size w5 w6 := by rw [ew6]; exact (Below.refl _ _).alloc (Nat.le_refl _) _
  have t0 : w6.cell? ⟨w5.heap.size, 0, none⟩ = some (.int .i8 C1) := by rw [ew6]; simp [go_sem]
  have t1 : w6.cell? ⟨w5.heap.size, 1, none⟩ = some (.bool D1') := by rw [ew6]; simp [go_sem]
  have hB6 := hB5.trans (hb.mono hB5.size)
  have c0 := cell_later hb c0
  have c1 := cell_later hb c1
  have hv7 := hv7.below hb
  clear hb
  subst ew6
  go_wp2_with fail
  generalize w5.alloc (.cells #[.int .i8 C1, .bool D1'] 83) = w6 at *
  refine (hem _).mono ?_
  rintro ee w7 ⟨rfl, hb⟩
  have hB7 := hB6.trans (hb.mono hB6.size)
  have c0 := cell_later hb c0
  have c1 := cell_later hb c1
  have t0 := cell_later hb t0
  have t1 := cell_later hb t1
  have hv7 := hv7.below hb
  clear hb
  go_wp2_with fail
  refine (hem _).mono ?_
  rintro ee w8 ⟨rfl, hb⟩
  have hB8 := hB7.trans (hb.mono hB7.size)
  have c0 := cell_later hb c0
  have c1 := cell_later hb c1
  have t0 := cell_later hb t0
  have t1 := cell_later hb t1
  have hv7 := hv7.below hb
  clear hb
  go_wp2
  have ht := fun (w' : World) (hb : Below w8.heap.size w8 w') => toU64N (hv7.below hb) (by omega)
  go_region_held3 (fun w' => Below w8.heap.size w8 w' ∧ w'.cell? ⟨w.heap.size, 0, none⟩ = some (.int .u8 E) ∧ w'.cell? ⟨w.heap.size, 1, none⟩ = some (.int .u8 M) ∧ w'.cell? ⟨w5.heap.size, 0, none⟩ = some (.int .i8 C1) ∧ w'.cell? ⟨w5.heap.size, 1, none⟩ = some (.bool D1'))
    (first
      | (exact ⟨(Below.refl _ _).drew, c0, c1, t0, t1⟩)
      | (have hX := below_step (Below.refl w8.heap.size w8).drew hbx; exact ⟨hX, cell_later hX c0, cell_later hX c1, cell_later hX t0, cell_later hX t1⟩)
      | (obtain ⟨hX0, -⟩ := ‹Below w8.heap.size w8 _ ∧ _›; have hX := below_step hX0 hbx; exact ⟨hX, cell_later hX c0, cell_later hX c1, cell_later hX t0, cell_later hX t1⟩))
    (first
      | (go_at_call 67; refine (ht _ (Below.refl _ _).drew).mono ?_; rintro ee wx ⟨rfl, ewx⟩; have hbx : Below w8.drew.heap.size w8.drew wx := by rw [ewx]; exact Below.refl _ _)
      | (go_at_call 66; refine (hpk _ _ _ _).mono ?_; rintro ee wx ⟨⟨fl, rfl⟩, hbx⟩))
  all_goals
    obtain ⟨hX0, -⟩ := ‹Below w8.heap.size w8 _ ∧ _›
    go_wp2
    go_ret2
    exact ⟨⟨fl, rfl⟩, hB8.trans (hX0.mono hB8.size)⟩

end Go.Proofs.Ygcoah
