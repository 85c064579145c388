/-
  THE WALKS OF PACKAGE exact: RoundFlags, a normal result.
-/
import Derived.Test.YgcoahEx11
namespace Go.Proofs.Ygcoah
open Go.RowKit
attribute [local go_sem] eqNil neNil

set_option maxRecDepth 100000 in
set_option maxHeartbeats 6400000 in
theorem round_norm {w : World} {a b : Option Addr} {n m ca cb x y : Nat} (E M mode : Nat) (neg : Bool) (h : FOk E M) (hx : NatV w (.slice a n ca) x) (hy : NatV w (.slice b m cb) y) (bx : bl x ≤ 20000) (by0 : bl y ≤ 20000) (hy0 : 0 < y) (hz : x ≠ 0) (hov : ¬ (biasP E : Int) < max (lgP x y) (eminI E)) (hcs : eminI E ≤ lgC x y (eminI E - 1) (biasP E : Int)) :
    Calls Oahg.prog 88 #[.agg #[.int .u8 E, .int .u8 M], .int .u8 mode, .agg #[.bool neg, .slice a n ca, .slice b m cb]] w fun r w' => (∃ fl : Int, r = .returned (.tuple #[.int .u64 (packP E M mode neg (max (lgP x y) (eminI E)) (raisedP mode neg (x * P2 ((M : Int) - max (lgP x y) (eminI E))) (y * P2 (-((M : Int) - max (lgP x y) (eminI E)))))), .int .u8 fl])) ∧ Below w.heap.size w w' := by
  have hbi := biasP_bd h
  obtain ⟨i1, i2, i3, i4⟩ := h.ints
  have hmx := (lgC_max E x y).2 hov
  have hiL := lgP_isLg x y (by omega) hy0
  have hrl := raised_le mode M x y neg (lgP x y) (max (lgP x y) (eminI E)) hiL (by omega)
  have hem := fun w' => emin_any E M w' h
  have hemx := fun w' => emax_any E M w' h
  have hem0 : eminI E = 1 - (biasP E : Int) := rfl
  have ee1 : eminI E ≤ max (lgP x y) (eminI E) := by omega
  have ee2 : max (lgP x y) (eminI E) ≤ (biasP E : Int) := by omega
  have hM53 : 2 ^ (M + 1) ≤ 9007199254740992 := by
    have := Nat.pow_le_pow_right (n := 2) (by decide) (show M + 1 ≤ 53 by omega)
    simpa using this
  have bN := bl_P2 x ((M : Int) - max (lgP x y) (eminI E)) 1100 (by omega)
  have sN : Small (x * P2 ((M : Int) - max (lgP x y) (eminI E))) := Nat.le_trans bN (by omega)
  have pD : 0 < y * P2 (-((M : Int) - max (lgP x y) (eminI E))) := Nat.mul_pos hy0 (P2_pos _)
  have hsh := fun (w' : World) (a' b' : Option Addr) (n' ca' m' cb' : Nat) (h1 : NatV w' (.slice a' n' ca') x) (h2 : NatV w' (.slice b' m' cb') y) => shiftN ((M : Int) - max (lgP x y) (eminI E)) h1 h2 (Nat.le_trans bx (by decide)) (Nat.le_trans by0 (by decide)) (by omega) (by omega)
  have wk : IntKind.i64.wrap ((M : Int) - max (lgP x y) (eminI E)) = (M : Int) - max (lgP x y) (eminI E) := IntWalk.i64_in _ (by omega)
  have hpk := fun (n' : Nat) (c' : Int) (s' t' : Bool) (w' : World) (hn : n' ≤ 2 ^ (M + 1)) => pack_any E M mode neg (max (lgP x y) (eminI E)) n' c' s' t' w' h ee1 ee2 hn
  obtain ⟨RR, hRR⟩ : ∃ RR, RR = raisedP mode neg (x * P2 ((M : Int) - max (lgP x y) (eminI E))) (y * P2 (-((M : Int) - max (lgP x y) (eminI E)))) := ⟨_, rfl⟩
  rw [← hRR] at hrl ⊢
  have wem : IntKind.i64.wrap (eminI E - 1) = eminI E - 1 := IntWalk.i64_in _ (by omega)
  have hlg := fun (w' : World) (a' b' : Option Addr) (n' ca' m' cb' : Nat) (h1 : NatV w' (.slice a' n' ca') x) (h2 : NatV w' (.slice b' m' cb') y) => log2N (eminI E - 1) (biasP E : Int) h1 h2 (Nat.le_trans bx (by decide)) (Nat.le_trans by0 (by decide)) (by omega) (by omega) (by omega) (by omega)
  obtain ⟨L, hL⟩ : ∃ L, L = lgC x y (eminI E - 1) (biasP E : Int) := ⟨_, rfl⟩
  rw [← hL] at hmx hcs hlg
  clear hL hov hiL bN bx by0 hbi
  generalize max (lgP x y) (eminI E) = e at *
  have hme : e = L := by omega
  subst hme
  have f1 : decide (e < eminI E) = false := decide_eq_false (by omega)
  have f0 : eminI E ≤ e := by omega
  have f2 : decide ((biasP E : Int) < e) = false := decide_eq_false (by omega)
  have f3 : (e == eminI E - 1) = false := by rw [beq_eq_false_iff_ne]; omega
  obtain ⟨V, hV⟩ : ∃ V, V = packP E M mode neg e RR := ⟨_, rfl⟩
  have hpk := hpk RR
  rw [← hV] at hpk ⊢
  clear hV hmx hem0 ee1 ee2 hcs
  have HRR := hRR
  clear hRR
  have hmk := fun w' hb => makeRatN neg (hx.below (w' := w') hb) (hy.below hb) hy0
  go_enter Oahg.func88, Oahg.ntmps88
  go_wp2_with fail
  refine (okT _ _ _ h).mono ?_
  rintro ee wa ⟨rfl, hba⟩
  have c0 : wa.cell? ⟨w.heap.size, 0, none⟩ = some (.int .u8 E) := cell_later hba (by simp [go_sem])
  have c1 : wa.cell? ⟨w.heap.size, 1, none⟩ = some (.int .u8 M) := cell_later hba (by simp [go_sem])
  have r0 : wa.cell? ⟨w.heap.size + 1, 0, none⟩ = some (.bool neg) := cell_later hba (by simp [go_sem])
  have r1 : wa.cell? ⟨w.heap.size + 1, 1, none⟩ = some (.slice a n ca) := cell_later hba (by simp [go_sem])
  have r2 : wa.cell? ⟨w.heap.size + 1, 2, none⟩ = some (.slice b m cb) := cell_later hba (by simp [go_sem])
  have q0 : wa.frozen? ⟨w.heap.size + 1, 0, none⟩ = false := by rw [hba.frozen (p := ⟨w.heap.size + 1, 0, none⟩) (by simp)]; simp [go_sem]
  have q1 : wa.frozen? ⟨w.heap.size + 1, 1, none⟩ = false := by rw [hba.frozen (p := ⟨w.heap.size + 1, 1, none⟩) (by simp)]; simp [go_sem]
  have q2 : wa.frozen? ⟨w.heap.size + 1, 2, none⟩ = false := by rw [hba.frozen (p := ⟨w.heap.size + 1, 2, none⟩) (by simp)]; simp [go_sem]
  have hBa : Below w.heap.size w wa := (((Below.refl _ _).alloc (Nat.le_refl _) _).alloc (by simp) _).trans (hba.mono (by simp; omega))
  clear hba
  go_wp2_with fail
  refine (hmk _ hBa).mono ?_
  rintro ee wb ⟨⟨v, rfl, a3, n3, k3, a4, n4, k4, rfl, hv3, hv4⟩, hbb⟩
  have hBb := hBa.trans (hbb.mono hBa.size)
  have q0 := frozen_later hbb r0 q0
  have q1 := frozen_later hbb r1 q1
  have q2 := frozen_later hbb r2 q2
  have r0 := cell_later hbb r0
  have r1 := cell_later hbb r1
  have r2 := cell_later hbb r2
  have c0 := cell_later hbb c0
  have c1 := cell_later hbb c1
  have hnn : a3.isNone = false := by rw [hv3.isNone]; exact decide_eq_false hz
  clear hmk hBa hx hy hbb
  go_wp2
  obtain ⟨W, eW⟩ : ∃ W, W = ((wb.setCell ⟨w.heap.size + 1, 0, none⟩ (.bool neg)).setCell ⟨w.heap.size + 1, 1, none⟩ (.slice a3 n3 k3)).setCell ⟨w.heap.size + 1, 2, none⟩ (.slice a4 n4 k4) := ⟨_, rfl⟩
  have hB : Below w.heap.size w W := by rw [eW]; exact ((hBb.setCell (by simp) _).setCell (by simp) _).setCell (by simp) _
  have c0 : W.cell? ⟨w.heap.size, 0, none⟩ = some (.int .u8 E) := by rw [eW]; simp [go_sem, c0]
  have c1 : W.cell? ⟨w.heap.size, 1, none⟩ = some (.int .u8 M) := by rw [eW]; simp [go_sem, c1]
  have s0 : W.cell? ⟨w.heap.size + 1, 0, none⟩ = some (.bool neg) := by rw [eW]; simp [go_sem, r0]
  have s1 : W.cell? ⟨w.heap.size + 1, 1, none⟩ = some (.slice a3 n3 k3) := by rw [eW]; simp [go_sem, r1]
  have s2 : W.cell? ⟨w.heap.size + 1, 2, none⟩ = some (.slice a4 n4 k4) := by rw [eW]; simp [go_sem, r2]
  have hv3 : NatV W (.slice a3 n3 k3) x := by rw [eW]; exact ((hv3.set r0 (fun _ h => by cases h) _).set (c := .slice a n ca) (by simp [go_sem, r1]) (fun _ h => by cases h) _).set (c := .slice b m cb) (by simp [go_sem, r2]) (fun _ h => by cases h) _
  have hv4 : NatV W (.slice a4 n4 k4) y := by rw [eW]; exact ((hv4.set r0 (fun _ h => by cases h) _).set (c := .slice a n ca) (by simp [go_sem, r1]) (fun _ h => by cases h) _).set (c := .slice b m cb) (by simp [go_sem, r2]) (fun _ h => by cases h) _
  try rw [← eW]
  clear eW q0 q1 q2 r0 r1 r2 hBb
  have hlg := fun (x' : Ext W) => hlg _ _ _ _ _ _ _ (hv3.below x'.hb) (hv4.below x'.hb)
  have d0 : ∀ x : Ext W, x.w.cell? ⟨w.heap.size, 0, none⟩ = some (.int .u8 E) := fun x => x.cell c0
  have d1 : ∀ x : Ext W, x.w.cell? ⟨w.heap.size, 1, none⟩ = some (.int .u8 M) := fun x => x.cell c1
  have d2 : ∀ x : Ext W, x.w.cell? ⟨w.heap.size + 1, 1, none⟩ = some (.slice a3 n3 k3) := fun x => x.cell s1
  have d3 : ∀ x : Ext W, x.w.cell? ⟨w.heap.size + 1, 2, none⟩ = some (.slice a4 n4 k4) := fun x => x.cell s2
  have hX : Nonempty (Ext W) := Ext.some _
  refine wp_region_ext (by kernel_rfl) (by kernel_rfl) ?_
  repeat (go_big_quiet_step (first | (go_at_call 62; exact Calls.ext_of (hem _)) | (go_at_call 63; exact Calls.ext_of (hemx _)) | (go_at_call 61; exact Calls.ext_of (hlg _))))
  refine wpQuiet_nil ?_
  rintro _ ⟨z, rfl⟩
  have hB1 : Below w.heap.size w z.w := hB.trans (z.hb.mono hB.size)
  have c0 := z.cell c0
  have c1 := z.cell c1
  have s0 := z.cell s0
  have s1 := z.cell s1
  have s2 := z.cell s2
  have hv3 := hv3.below z.hb
  have hv4 := hv4.below z.hb
  generalize z.w = wx at *
  clear d0 d1 d2 d3 hX hlg hB
  go_wp2_with fail
  refine (hem _).mono ?_
  rintro ee w2 ⟨rfl, hb⟩
  have hB2 := hB1.trans (hb.mono hB1.size)
  have c0 := cell_later hb c0
  have c1 := cell_later hb c1
  have s0 := cell_later hb s0
  have s1 := cell_later hb s1
  have s2 := cell_later hb s2
  have hv3 := hv3.below hb
  have hv4 := hv4.below hb
  clear hb
  go_wp2_with fail
  refine (hemx _).mono ?_
  rintro ee w3 ⟨rfl, hb⟩
  have hB3 := hB2.trans (hb.mono hB2.size)
  have c0 := cell_later hb c0
  have c1 := cell_later hb c1
  have s0 := cell_later hb s0
  have s1 := cell_later hb s1
  have s2 := cell_later hb s2
  have hv3 := hv3.below hb
  have hv4 := hv4.below hb
  clear hb
  go_wp2_with fail
  refine (hsh _ _ _ _ _ _ _ hv3 hv4).mono ?_
  rintro ee w4 ⟨⟨v5, v6, rfl, hv5, hv6⟩, hb⟩
  obtain ⟨a5, n5, k5, rfl⟩ := hv5.form
  obtain ⟨a6, n6, k6, rfl⟩ := hv6.form
  have hB4 := hB3.trans (hb.mono hB3.size)
  have c0 := cell_later hb c0
  have c1 := cell_later hb c1
  have s0 := cell_later hb s0
  have s1 := cell_later hb s1
  have s2 := cell_later hb s2
  have hv3 := hv3.below hb
  have hv4 := hv4.below hb
  clear hb hsh
  go_wp2_with fail
  refine (raisedN mode neg hv5 hv6 sN pD).mono ?_
  rintro ee w5 ⟨⟨v7, rfl, hv7⟩, hb⟩
  obtain ⟨a7, n7, k7, rfl⟩ := hv7.form
  have hB5 := hB4.trans (hb.mono hB4.size)
  have c0 := cell_later hb c0
  have c1 := cell_later hb c1
  have s0 := cell_later hb s0
  have s1 := cell_later hb s1
  have s2 := cell_later hb s2
  have hv3 := hv3.below hb
  have hv4 := hv4.below hb
  rw [← HRR] at hv7
  clear hb hv5 hv6 sN pD HRR
  generalize cmpI (2 * (x * P2 ((M : Int) - e) % (y * P2 (-((M : Int) - e))))) (y * P2 (-((M : Int) - e))) = C1 at *
  generalize decide (x * P2 ((M : Int) - e) % (y * P2 (-((M : Int) - e))) ≠ 0) = D1 at *
  obtain ⟨w6, ew6⟩ : ∃ w6, w6 = w5.alloc (.cells #[.int .i8 C1, .bool D1] 83) := ⟨_, rfl⟩
  have hb : Below w5.heap.size w5 w6 := by rw [ew6]; exact (Below.refl _ _).alloc (Nat.le_refl _) _
  have t0 : w6.cell? ⟨w5.heap.size, 0, none⟩ = some (.int .i8 C1) := by rw [ew6]; simp [go_sem]
  have t1 : w6.cell? ⟨w5.heap.size, 1, none⟩ = some (.bool D1) := by rw [ew6]; simp [go_sem]
  have hB6 := hB5.trans (hb.mono hB5.size)
  have c0 := cell_later hb c0
  have c1 := cell_later hb c1
  have s0 := cell_later hb s0
  have s1 := cell_later hb s1
  have s2 := cell_later hb s2
  have hv3 := hv3.below hb
  have hv4 := hv4.below hb
  have hv7 := hv7.below hb
  clear hb
  subst ew6
  go_wp2_with fail
  generalize w5.alloc (.cells #[.int .i8 C1, .bool D1] 83) = w6 at *
  refine (hem _).mono ?_
  rintro ee w7 ⟨rfl, hb⟩
  have hB7 := hB6.trans (hb.mono hB6.size)
  have c0 := cell_later hb c0
  have c1 := cell_later hb c1
  have s0 := cell_later hb s0
  have s1 := cell_later hb s1
  have s2 := cell_later hb s2
  have t0 := cell_later hb t0
  have t1 := cell_later hb t1
  have hv3 := hv3.below hb
  have hv4 := hv4.below hb
  have hv7 := hv7.below hb
  clear hb
  go_wp2_with fail
  refine (hem _).mono ?_
  rintro ee w8 ⟨rfl, hb⟩
  have hB8 := hB7.trans (hb.mono hB7.size)
  have c0 := cell_later hb c0
  have c1 := cell_later hb c1
  have s0 := cell_later hb s0
  have s1 := cell_later hb s1
  have s2 := cell_later hb s2
  have t0 := cell_later hb t0
  have t1 := cell_later hb t1
  have hv3 := hv3.below hb
  have hv4 := hv4.below hb
  have hv7 := hv7.below hb
  clear hb
  go_wp2
  have ht := fun (w' : World) (hb : Below w8.heap.size w8 w') => toU64N (hv7.below hb) (by omega)
  go_region_held3 (fun w' => Below w8.heap.size w8 w' ∧ w'.cell? ⟨w.heap.size, 0, none⟩ = some (.int .u8 E) ∧ w'.cell? ⟨w.heap.size, 1, none⟩ = some (.int .u8 M) ∧ w'.cell? ⟨w.heap.size + 1, 0, none⟩ = some (.bool neg) ∧ w'.cell? ⟨w5.heap.size, 0, none⟩ = some (.int .i8 C1) ∧ w'.cell? ⟨w5.heap.size, 1, none⟩ = some (.bool D1))
    (first
      | (exact ⟨(Below.refl _ _).drew, c0, c1, s0, t0, t1⟩)
      | (have hX := below_step (Below.refl w8.heap.size w8).drew hbx; exact ⟨hX, cell_later hX c0, cell_later hX c1, cell_later hX s0, cell_later hX t0, cell_later hX t1⟩)
      | (obtain ⟨hX0, -⟩ := ‹Below w8.heap.size w8 _ ∧ _›; have hX := below_step hX0 hbx; exact ⟨hX, cell_later hX c0, cell_later hX c1, cell_later hX s0, cell_later hX t0, cell_later hX t1⟩))
    (first
      | (go_at_call 67; refine (ht _ (Below.refl _ _).drew).mono ?_; rintro ee wx ⟨rfl, ewx⟩; have hbx : Below w8.drew.heap.size w8.drew wx := by rw [ewx]; exact Below.refl _ _)
      | (go_at_call 66; refine (hpk _ _ _ _ hrl).mono ?_; rintro ee wx ⟨⟨fl, rfl⟩, hbx⟩))
  all_goals
    obtain ⟨hX0, -⟩ := ‹Below w8.heap.size w8 _ ∧ _›
    go_wp2
    go_ret2
    exact ⟨⟨fl, rfl⟩, hB8.trans (hX0.mono hB8.size)⟩

end Go.Proofs.Ygcoah
