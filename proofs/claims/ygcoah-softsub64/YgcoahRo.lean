/-
  THE WALKS OF PACKAGE exact: RoundFlags, beyond the finite values.
-/
import Derived.Test.YgcoahEx11
namespace Go.Proofs.Ygcoah
open Go.RowKit
attribute [local go_sem] eqNil neNil

set_option maxRecDepth 100000 in
set_option maxHeartbeats 6400000 in
theorem round_over {w : World} {a b : Option Addr} {n m ca cb x y : Nat} (E M mode : Nat) (neg : Bool) (h : FOk E M) (hx : NatV w (.slice a n ca) x) (hy : NatV w (.slice b m cb) y) (bx : bl x ≤ 20000) (by0 : bl y ≤ 20000) (hy0 : 0 < y) (hz : x ≠ 0) (hov : (biasP E : Int) < max (lgP x y) (eminI E)) :
    Calls Oahg.prog 88 #[.agg #[.int .u8 E, .int .u8 M], .int .u8 mode, .agg #[.bool neg, .slice a n ca, .slice b m cb]] w fun r w' => (∃ fl : Int, r = .returned (.tuple #[.int .u64 (ovfP E M mode neg), .int .u8 fl])) ∧ Below w.heap.size w w' := by
  have hbi := biasP_bd h
  have hov2 := (lgC_max E x y).1.2 hov
  have hem := fun w' => emin_any E M w' h
  have hemx := fun w' => emax_any E M w' h
  have hoo := fun w' => eoverflow_any E M mode neg w' h
  have sx : Small x := Nat.le_trans bx (by decide)
  have sy : Small y := Nat.le_trans by0 (by decide)
  have hmk := fun w' hb => makeRatN neg (hx.below (w' := w') hb) (hy.below hb) hy0
  go_enter Oahg.func88, Oahg.ntmps88
  go_wp2_with fail
  refine (okT _ _ _ h).mono ?_
  rintro ee wa ⟨rfl, hba⟩
  have c0 : wa.cell? ⟨w.heap.size, 0, none⟩ = some (.int .u8 E) := cell_later hba (by simp [go_sem])
  have c1 : wa.cell? ⟨w.heap.size, 1, none⟩ = some (.int .u8 M) := cell_later hba (by simp [go_sem])
  have r0 : wa.cell? ⟨w.heap.size + 1, 0, none⟩ = some (.bool neg) := cell_later hba (by simp [go_sem])
  have r1 : wa.cell? ⟨w.heap.size + 1, 1, none⟩ = some (.slice a n ca) := cell_later hba (by simp [go_sem])
  have r2 : wa.cell? ⟨w.heap.size + 1, 2, none⟩ = some (.slice b m cb) := cell_later hba (by simp [go_sem])
  have q0 : wa.frozen? ⟨w.heap.size + 1, 0, none⟩ = false := by rw [hba.frozen (p := ⟨w.heap.size + 1, 0, none⟩) (by simp)]; simp [go_sem]
  have q1 : wa.frozen? ⟨w.heap.size + 1, 1, none⟩ = false := by rw [hba.frozen (p := ⟨w.heap.size + 1, 1, none⟩) (by simp)]; simp [go_sem]
  have q2 : wa.frozen? ⟨w.heap.size + 1, 2, none⟩ = false := by rw [hba.frozen (p := ⟨w.heap.size + 1, 2, none⟩) (by simp)]; simp [go_sem]
  have hBa : Below w.heap.size w wa := (((Below.refl _ _).alloc (Nat.le_refl _) _).alloc (by simp) _).trans (hba.mono (by simp; omega))
  clear hba
  go_wp2_with fail
  refine (hmk _ hBa).mono ?_
  rintro ee wb ⟨⟨v, rfl, a3, n3, k3, a4, n4, k4, rfl, hv3, hv4⟩, hbb⟩
  have hBb := hBa.trans (hbb.mono hBa.size)
  have q0 := frozen_later hbb r0 q0
  have q1 := frozen_later hbb r1 q1
  have q2 := frozen_later hbb r2 q2
  have r0 := cell_later hbb r0
  have r1 := cell_later hbb r1
  have r2 := cell_later hbb r2
  have c0 := cell_later hbb c0
  have c1 := cell_later hbb c1
  have hnn : a3.isNone = false := by rw [hv3.isNone]; exact decide_eq_false hz
  clear hmk hBa hx hy hbb
  go_wp2
  obtain ⟨W, eW⟩ : ∃ W, W = ((wb.setCell ⟨w.heap.size + 1, 0, none⟩ (.bool neg)).setCell ⟨w.heap.size + 1, 1, none⟩ (.slice a3 n3 k3)).setCell ⟨w.heap.size + 1, 2, none⟩ (.slice a4 n4 k4) := ⟨_, rfl⟩
  have hB : Below w.heap.size w W := by rw [eW]; exact ((hBb.setCell (by simp) _).setCell (by simp) _).setCell (by simp) _
  have c0 : W.cell? ⟨w.heap.size, 0, none⟩ = some (.int .u8 E) := by rw [eW]; simp [go_sem, c0]
  have c1 : W.cell? ⟨w.heap.size, 1, none⟩ = some (.int .u8 M) := by rw [eW]; simp [go_sem, c1]
  have s0 : W.cell? ⟨w.heap.size + 1, 0, none⟩ = some (.bool neg) := by rw [eW]; simp [go_sem, r0]
  have s1 : W.cell? ⟨w.heap.size + 1, 1, none⟩ = some (.slice a3 n3 k3) := by rw [eW]; simp [go_sem, r1]
  have s2 : W.cell? ⟨w.heap.size + 1, 2, none⟩ = some (.slice a4 n4 k4) := by rw [eW]; simp [go_sem, r2]
  have hv3 : NatV W (.slice a3 n3 k3) x := by rw [eW]; exact ((hv3.set r0 (fun _ h => by cases h) _).set (c := .slice a n ca) (by simp [go_sem, r1]) (fun _ h => by cases h) _).set (c := .slice b m cb) (by simp [go_sem, r2]) (fun _ h => by cases h) _
  have hv4 : NatV W (.slice a4 n4 k4) y := by rw [eW]; exact ((hv4.set r0 (fun _ h => by cases h) _).set (c := .slice a n ca) (by simp [go_sem, r1]) (fun _ h => by cases h) _).set (c := .slice b m cb) (by simp [go_sem, r2]) (fun _ h => by cases h) _
  try rw [← eW]
  clear eW q0 q1 q2 r0 r1 r2 hBb
  have hlg := fun (x' : Ext W) => log2N (eminI E - 1) (biasP E : Int) (hv3.below x'.hb) (hv4.below x'.hb) sx sy (by unfold eminI; omega) (by unfold eminI; omega) (by omega) (by omega)
  have we : IntKind.i64.wrap (eminI E - 1) = eminI E - 1 := IntWalk.i64_in _ (by unfold eminI; omega)
  have d0 : ∀ x : Ext W, x.w.cell? ⟨w.heap.size, 0, none⟩ = some (.int .u8 E) := fun x => x.cell c0
  have d1 : ∀ x : Ext W, x.w.cell? ⟨w.heap.size, 1, none⟩ = some (.int .u8 M) := fun x => x.cell c1
  have d2 : ∀ x : Ext W, x.w.cell? ⟨w.heap.size + 1, 1, none⟩ = some (.slice a3 n3 k3) := fun x => x.cell s1
  have d3 : ∀ x : Ext W, x.w.cell? ⟨w.heap.size + 1, 2, none⟩ = some (.slice a4 n4 k4) := fun x => x.cell s2
  have hX : Nonempty (Ext W) := Ext.some _
  refine wp_region_ext (by kernel_rfl) (by kernel_rfl) ?_
  repeat (go_big_quiet_step (first | (go_at_call 62; exact Calls.ext_of (hem _)) | (go_at_call 63; exact Calls.ext_of (hemx _)) | (go_at_call 61; exact Calls.ext_of (hlg _))))
  refine wpQuiet_nil ?_
  rintro _ ⟨z, rfl⟩
  have hB1 : Below w.heap.size w z.w := hB.trans (z.hb.mono hB.size)
  have c0 := z.cell c0
  have c1 := z.cell c1
  have s0 := z.cell s0
  have s1 := z.cell s1
  have s2 := z.cell s2
  have hv3 := hv3.below z.hb
  have hv4 := hv4.below z.hb
  generalize z.w = wx at *
  clear d0 d1 d2 d3 hX hlg hB
  have hlt : (biasP E : Int) < lgC x y (eminI E - 1) (biasP E : Int) := by have : eminI E ≤ (biasP E : Int) := by unfold eminI; omega
                                                                           omega
  have hge : decide (lgC x y (eminI E - 1) (biasP E : Int) < eminI E) = false := decide_eq_false (by have : eminI E ≤ (biasP E : Int) := by unfold eminI; omega
                                                                                                     omega)
  have hge2 : eminI E ≤ lgC x y (eminI E - 1) (biasP E : Int) := by have : eminI E ≤ (biasP E : Int) := by unfold eminI; omega
                                                                    omega
  clear hov2 hov
  generalize lgC x y (eminI E - 1) (biasP E : Int) = L at *
  generalize eminI E = em at *
  go_wp2_with fail
  refine (hem _).mono ?_
  rintro e w2 ⟨rfl, hb⟩
  have hB2 := hB1.trans (hb.mono hB1.size)
  have c0 := cell_later hb c0
  have c1 := cell_later hb c1
  have s0 := cell_later hb s0
  clear hv3 hv4 s1 s2
  go_wp2_with fail
  refine (hemx _).mono ?_
  rintro e w3 ⟨rfl, hb⟩
  have hB3 := hB2.trans (hb.mono hB2.size)
  have c0 := cell_later hb c0
  have c1 := cell_later hb c1
  have s0 := cell_later hb s0
  go_wp2_with fail
  refine (hoo _).mono ?_
  rintro e w4 ⟨⟨fl, rfl⟩, hb⟩
  have hB4 := hB3.trans (hb.mono hB3.size)
  go_wp2
  go_ret2
  exact ⟨⟨fl, rfl⟩, hB4⟩

end Go.Proofs.Ygcoah
