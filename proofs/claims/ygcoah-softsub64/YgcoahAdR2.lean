/-
  THE WALKS OF PACKAGE exact: addRat.
-/
import Derived.Test.YgcoahEx7
import Derived.Test.YgcoahAddN
namespace Go.Proofs.Ygcoah
open Go.RowKit

set_option maxRecDepth 100000 in
set_option maxHeartbeats 3200000 in
theorem addRat_eq {w : World} {a1 a2 a3 a4 : Option Addr} {l1 l2 l3 l4 q1 q2 q3 q4 x1 y1 x2 y2 : Nat} (n1 : Bool) (h1 : NatV w (.slice a1 l1 q1) x1) (h2 : NatV w (.slice a2 l2 q2) y1) (h3 : NatV w (.slice a3 l3 q3) x2) (h4 : NatV w (.slice a4 l4 q4) y2) (s1 : bl x1 ≤ 1300) (s2 : bl y1 ≤ 1300) (s3 : bl x2 ≤ 1300) (s4 : bl y2 ≤ 1300) :
    Calls Oahg.prog 86 #[.agg #[.bool n1, .slice a1 l1 q1, .slice a2 l2 q2], .agg #[.bool n1, .slice a3 l3 q3, .slice a4 l4 q4]] w fun e w' => (∃ v, e = .returned v ∧ RatV w' v n1 (x1 * y2 + x2 * y1) (y1 * y2)) ∧ Below w.heap.size w w' := by
  have t1 : Small x1 := Nat.le_trans s1 (by decide)
  have t2 : Small y1 := Nat.le_trans s2 (by decide)
  have t3 : Small x2 := Nat.le_trans s3 (by decide)
  have t4 : Small y2 := Nat.le_trans s4 (by decide)
  have bX := bl_mul_le x1 y2
  have bY := bl_mul_le x2 y1
  obtain ⟨X, eX⟩ : ∃ X, x1 * y2 = X := ⟨_, rfl⟩
  obtain ⟨Y, eY⟩ : ∃ Y, x2 * y1 = Y := ⟨_, rfl⟩
  obtain ⟨D, eD⟩ : ∃ D, y1 * y2 = D := ⟨_, rfl⟩
  have tX : Small X := by rw [← eX]; exact Nat.le_trans bX (by omega)
  have tY : Small Y := by rw [← eY]; exact Nat.le_trans bY (by omega)
  clear bX bY s1 s2 s3 s4
  rw [eX, eY, eD]
  go_enter Oahg.func86, Oahg.ntmps86
  go_wp2
  obtain ⟨W, eW⟩ : ∃ W, W = ((w.alloc (.cells #[.bool n1, .slice a1 l1 q1, .slice a2 l2 q2] 75)).alloc (.cells #[.bool n1, .slice a3 l3 q3, .slice a4 l4 q4] 75)).alloc (.cells #[.bool false, .slice none 0 0, .slice none 0 0] 75) := ⟨_, rfl⟩
  have hB : Below w.heap.size w W := by rw [eW]; exact (((Below.refl _ _).alloc (Nat.le_refl _) _).alloc (by simp) _).alloc (by simp; omega) _
  have x0 : W.cell? ⟨w.heap.size, 0, none⟩ = some (.bool n1) := by rw [eW]; simp [go_sem]
  have x1' : W.cell? ⟨w.heap.size, 1, none⟩ = some (.slice a1 l1 q1) := by rw [eW]; simp [go_sem]
  have x2' : W.cell? ⟨w.heap.size, 2, none⟩ = some (.slice a2 l2 q2) := by rw [eW]; simp [go_sem]
  have y0 : W.cell? ⟨w.heap.size + 1, 0, none⟩ = some (.bool n1) := by rw [eW]; simp [go_sem]
  have y1' : W.cell? ⟨w.heap.size + 1, 1, none⟩ = some (.slice a3 l3 q3) := by rw [eW]; simp [go_sem]
  have y2' : W.cell? ⟨w.heap.size + 1, 2, none⟩ = some (.slice a4 l4 q4) := by rw [eW]; simp [go_sem]
  have r0 : W.cell? ⟨w.heap.size + 1 + 1, 0, none⟩ = some (.bool false) := by rw [eW]; simp [go_sem]
  have r1 : W.cell? ⟨w.heap.size + 1 + 1, 1, none⟩ = some (.slice none 0 0) := by rw [eW]; simp [go_sem]
  have r2 : W.cell? ⟨w.heap.size + 1 + 1, 2, none⟩ = some (.slice none 0 0) := by rw [eW]; simp [go_sem]
  have z0 : W.frozen? ⟨w.heap.size + 1 + 1, 0, none⟩ = false := by rw [eW]; simp [go_sem]
  have z1 : W.frozen? ⟨w.heap.size + 1 + 1, 1, none⟩ = false := by rw [eW]; simp [go_sem]
  have z2 : W.frozen? ⟨w.heap.size + 1 + 1, 2, none⟩ = false := by rw [eW]; simp [go_sem]
  rw [← eW]
  clear eW
  have h1 := h1.below hB
  have h2 := h2.below hB
  have h3 := h3.below hB
  have h4 := h4.below hB
  have HR : Hid (W.cell? ⟨w.heap.size + 1 + 1, 0, none⟩ = some (.bool false) ∧ W.cell? ⟨w.heap.size + 1 + 1, 1, none⟩ = some (.slice none 0 0) ∧ W.cell? ⟨w.heap.size + 1 + 1, 2, none⟩ = some (.slice none 0 0) ∧ W.frozen? ⟨w.heap.size + 1 + 1, 0, none⟩ = false ∧ W.frozen? ⟨w.heap.size + 1 + 1, 1, none⟩ = false ∧ W.frozen? ⟨w.heap.size + 1 + 1, 2, none⟩ = false) := ⟨r0, r1, r2, z0, z1, z2⟩
  clear r0 r1 r2 z0 z1 z2
  have hmu := fun (w' : World) (a1 a2 : Option Addr) (l1 l2 c1 c2 X Y Z : Nat) (h1 : NatV W (.slice a1 l1 c1) X) (h2 : NatV W (.slice a2 l2 c2) Y) (s1 : Small X) (s2 : Small Y) (hz : X * Y = Z) (hb : Below W.heap.size W w') => (mulN (h1.below hb) (h2.below hb) s1 s2).mono (R' := fun e w'' => (∃ v, e = .returned v ∧ NatV w'' v Z) ∧ Below w'.heap.size w' w'') fun _ _ hh => by rw [hz] at hh; exact hh
  go_region_held3 (fun w' => Below W.heap.size W w' ∧ w'.cell? ⟨w.heap.size, 1, none⟩ = some (.slice a1 l1 q1) ∧ w'.cell? ⟨w.heap.size, 2, none⟩ = some (.slice a2 l2 q2) ∧ w'.cell? ⟨w.heap.size + 1, 1, none⟩ = some (.slice a3 l3 q3) ∧ w'.cell? ⟨w.heap.size + 1, 2, none⟩ = some (.slice a4 l4 q4))
    (first
      | (exact ⟨(Below.refl _ _).drew, x1', x2', y1', y2'⟩)
      | (have hX := below_step (Below.refl W.heap.size W).drew hbx; exact ⟨hX, cell_later hX x1', cell_later hX x2', cell_later hX y1', cell_later hX y2'⟩)
      | (obtain ⟨hX0, -⟩ := ‹Below W.heap.size W _ ∧ _›; have hX := below_step hX0 hbx; exact ⟨hX, cell_later hX x1', cell_later hX x2', cell_later hX y1', cell_later hX y2'⟩))
    ((go_at_call 40; refine (hmu _ _ _ _ _ _ _ _ _ _ (by assumption) (by assumption) (by assumption) (by assumption) (by assumption) (by first | exact (‹Below W.heap.size W _ ∧ _›).1 | exact (Below.refl _ _).drew)).mono ?_; rintro e wx ⟨⟨v, rfl, hv⟩, hbx⟩; obtain ⟨aa, ll, cc, rfl⟩ := hv.form; try (have hold := NatV.below ‹NatV _ _ X› hbx)))
  all_goals
    have hXW := (‹Below W.heap.size W _ ∧ _›).1
    go_wp2_with fail
    refine (hmu _ _ _ _ _ _ _ _ _ _ (by assumption) (by assumption) (by assumption) (by assumption) (by assumption) hXW).mono ?_
    rintro e w3 ⟨⟨v3, rfl, hvD⟩, hb3⟩
    obtain ⟨aD, lD, cD, rfl⟩ := hvD.form
    have hvX := NatV.below ‹NatV _ _ X› hb3
    have hvY := NatV.below ‹NatV _ _ Y› hb3
    have hX3 := below_step hXW hb3
    obtain ⟨r0, r1, r2, z0, z1, z2⟩ := HR.out
    have z0 := frozen_later hX3 r0 z0
    have z1 := frozen_later hX3 r1 z1
    have z2 := frozen_later hX3 r2 z2
    have r0 := cell_later hX3 r0
    have r1 := cell_later hX3 r1
    have r2 := cell_later hX3 r2
    have x0 := cell_later hX3 x0
    have y0 := cell_later hX3 y0
    have hB3 := hB.trans (hX3.mono hB.size)
    clear hmu x1' x2' y1' y2' h1 h2 h3 h4 HR
    have nq : (n1 == n1) = true := by simp
    go_wp2
    go_region_held3 (fun w' => Below w.heap.size w w' ∧ w'.cell? ⟨w.heap.size, 0, none⟩ = some (.bool n1))
      (first
        | (obtain ⟨hX0, g0⟩ := ‹Below w.heap.size w _ ∧ _›; exact ⟨((hX0.setCell (by simp; omega) _).setCell (by simp; omega) _).setCell (by simp; omega) _, by simp [go_sem, g0]⟩)
        | (have hX := below_step (Below.refl w3.heap.size w3).drew hbx; exact ⟨hB3.trans (hX.mono hB3.size), cell_later hX x0⟩)
        | (exact ⟨hB3.drew, x0⟩))
      ((go_at_call 135; refine (addN (hvX.below (Below.refl _ _).drew) (hvY.below (Below.refl _ _).drew) tX tY).mono ?_; rintro e wx ⟨⟨v2, rfl, hv5⟩, hbx⟩; obtain ⟨a6, l6, c6, rfl⟩ := hv5.form; have hA2 := below_step (Below.refl w3.heap.size w3).drew hbx; have o0 := frozen_later hA2 r0 z0; have o1 := frozen_later hA2 r1 z1; have o2 := frozen_later hA2 r2 z2; have u0 := cell_later hA2 r0; have u1 := cell_later hA2 r1; have u2 := cell_later hA2 r2; have hvD5 := hvD.below hA2))
    all_goals
      have hBx := hB3.trans (hA2.mono hB3.size)
      go_wp2
      refine bodyPost_ret (v := .agg #[.bool n1, .slice a6 l6 c6, .slice aD lD cD]) (by simp [results, Oahg.results86, go_sem, u0, u1, u2]) rfl ⟨⟨_, rfl, _, _, _, _, _, _, rfl, ?_, ?_⟩, ?_⟩
      · exact ((hv5.set u0 (fun _ h => by cases h) _).set (c := .slice none 0 0) (by simp [go_sem, u1]) (fun _ h => by cases h) _).set (c := .slice none 0 0) (by simp [go_sem, u2]) (fun _ h => by cases h) _
      · exact ((hvD5.set u0 (fun _ h => by cases h) _).set (c := .slice none 0 0) (by simp [go_sem, u1]) (fun _ h => by cases h) _).set (c := .slice none 0 0) (by simp [go_sem, u2]) (fun _ h => by cases h) _
      · exact ((hBx.setCell (by simp; omega) _).setCell (by simp; omega) _).setCell (by simp; omega) _

end Go.Proofs.Ygcoah
