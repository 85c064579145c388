/-
  THE WALKS OF PACKAGE exact, 9: Value of an infinity or NaN.
-/
import Derived.Test.YgcoahEx8
namespace Go.Proofs.Ygcoah
open Go.RowKit

set_option maxRecDepth 100000 in
set_option maxHeartbeats 3200000 in
theorem value_spec (E M x k mn : Nat) (ng : Bool) (ex : Int) (w : World) (h : FOk E M) (hx : x < 18446744073709551616) (hu : unp E M x = ⟨ng, k, ex, mn⟩) (hk : k = 3 ∨ k = 4) :
    Calls Oahg.prog 101 #[.agg #[.int .u8 E, .int .u8 M], .int .u64 x] w fun e w' => (∃ v, e = .returned (.tuple #[v, .int .i8 k]) ∧ RatV w' v false 0 1) ∧ Below w.heap.size w w' := by
  have hun := fun w' => unpack_pt E M x w' h hx
  rw [hu] at hun
  unfold ptV at hun
  simp only [] at hun
  have hwh := fun (w' : World) => wholeN false (NatV.nil w')
  have b3 : ((k : Int) == 4) = true ∨ (((k : Int) == 4) = false ∧ ((k : Int) == 3) = true) := by
    rcases hk with rfl | rfl
    · exact Or.inr ⟨by decide, by decide⟩
    · exact Or.inl (by decide)
  clear hu hk
  go_enter Oahg.func101, Oahg.ntmps101
  go_wp2_with fail
  refine (okT _ _ _ h).mono ?_
  rintro e wa ⟨rfl, hba⟩
  have c0 : wa.cell? ⟨w.heap.size, 0, none⟩ = some (.int .u8 E) := cell_later hba (by simp [go_sem])
  have c1 : wa.cell? ⟨w.heap.size, 1, none⟩ = some (.int .u8 M) := cell_later hba (by simp [go_sem])
  have r0 : wa.cell? ⟨w.heap.size + 1, 0, none⟩ = some (.bool false) := cell_later hba (by simp [go_sem])
  have r1 : wa.cell? ⟨w.heap.size + 1, 1, none⟩ = some (.slice none 0 0) := cell_later hba (by simp [go_sem])
  have r2 : wa.cell? ⟨w.heap.size + 1, 2, none⟩ = some (.slice none 0 0) := cell_later hba (by simp [go_sem])
  have q0 : wa.frozen? ⟨w.heap.size + 1, 0, none⟩ = false := by rw [hba.frozen (p := ⟨w.heap.size + 1, 0, none⟩) (by simp)]; simp [go_sem]
  have q1 : wa.frozen? ⟨w.heap.size + 1, 1, none⟩ = false := by rw [hba.frozen (p := ⟨w.heap.size + 1, 1, none⟩) (by simp)]; simp [go_sem]
  have q2 : wa.frozen? ⟨w.heap.size + 1, 2, none⟩ = false := by rw [hba.frozen (p := ⟨w.heap.size + 1, 2, none⟩) (by simp)]; simp [go_sem]
  have hBa : Below w.heap.size w wa := (((Below.refl _ _).alloc (Nat.le_refl _) _).alloc (by simp) _).trans (hba.mono (by simp; omega))
  clear hba
  go_wp2_with fail
  refine (hun _).mono ?_
  rintro e wb ⟨⟨v, rfl, rfl⟩, hbb⟩
  have hBb := hBa.trans (hbb.mono hBa.size)
  have q0 := frozen_later hbb r0 q0
  have q1 := frozen_later hbb r1 q1
  have q2 := frozen_later hbb r2 q2
  have hlt : w.heap.size + 1 < wb.heap.size := Nat.lt_of_lt_of_le (World.block_lt_of_cell? _ _ r0) hbb.size
  have r0 := cell_later hbb r0
  have r1 := cell_later hbb r1
  have r2 := cell_later hbb r2
  clear c0 c1 hun hBa
  rcases b3 with b4 | ⟨b4, b3⟩
  · go_wp2
    obtain ⟨W, eW⟩ : ∃ W, W = wb.alloc (.cells #[.bool ng, .int .i8 k, .int .i16 ex, .int .u64 mn] 63) := ⟨_, rfl⟩
    have hbW : Below wb.heap.size wb W := by rw [eW]; exact (Below.refl _ _).alloc (Nat.le_refl _) _
    have s1 : W.cell? ⟨wb.heap.size, 1, none⟩ = some (.int .i8 k) := by rw [eW]; simp [go_sem]
    rw [← eW]
    clear eW
    have hBW := hBb.trans (hbW.mono hBb.size)
    have q0 := frozen_later hbW r0 q0
    have q1 := frozen_later hbW r1 q1
    have q2 := frozen_later hbW r2 q2
    have r0 := cell_later hbW r0
    have r1 := cell_later hbW r1
    have r2 := cell_later hbW r2
    have hne : w.heap.size + 1 ≠ wb.heap.size := by omega
    clear hBb hbb hbW hlt
    generalize wb.heap.size = bp at *
    go_region_held3 (fun w' => Below w.heap.size w w' ∧ w'.cell? ⟨bp, 1, none⟩ = some (.int .i8 k))
      (first
        | (exact ⟨hBW.drew, s1⟩)
        | (have hX := below_step (Below.refl W.heap.size W).drew hbx; exact ⟨hBW.trans (hX.mono hBW.size), cell_later hX s1⟩)
        | (obtain ⟨hX0, t1⟩ := ‹Below w.heap.size w _ ∧ _›; exact ⟨((hX0.setCell (by simp) _).setCell (by simp) _).setCell (by simp) _, by simp [go_sem, t1]⟩))
      ((go_at_call 141; refine (hwh _).mono ?_; rintro e wx ⟨⟨v2, rfl, a3, n3, k3, a4, n4, k4, rfl, hv3, hv4⟩, hbx⟩; have hA2 := below_step (Below.refl W.heap.size W).drew hbx; have u0 := cell_later hA2 r0; have u1 := cell_later hA2 r1; have u2 := cell_later hA2 r2; have o0 := frozen_later hA2 r0 q0; have o1 := frozen_later hA2 r1 q1; have o2 := frozen_later hA2 r2 q2))
    all_goals
      have hBx := hBW.trans (hA2.mono hBW.size)
      go_wp2
      refine bodyPost_ret (v := .tuple #[.agg #[.bool false, .slice a3 n3 k3, .slice a4 n4 k4], .int .i8 k]) (by simp [results, Oahg.results101, go_sem, u0, u1, u2]) rfl ⟨⟨_, rfl, _, _, _, _, _, _, rfl, ?_, ?_⟩, ?_⟩
      · exact ((hv3.set u0 (fun _ h => by cases h) _).set (c := .slice none 0 0) (by simp [go_sem, u1]) (fun _ h => by cases h) _).set (c := .slice none 0 0) (by simp [go_sem, u2]) (fun _ h => by cases h) _
      · exact ((hv4.set u0 (fun _ h => by cases h) _).set (c := .slice none 0 0) (by simp [go_sem, u1]) (fun _ h => by cases h) _).set (c := .slice none 0 0) (by simp [go_sem, u2]) (fun _ h => by cases h) _
      · exact ((hBx.setCell (by simp) _).setCell (by simp) _).setCell (by simp) _
  · go_wp2
    obtain ⟨W, eW⟩ : ∃ W, W = wb.alloc (.cells #[.bool ng, .int .i8 k, .int .i16 ex, .int .u64 mn] 63) := ⟨_, rfl⟩
    have hbW : Below wb.heap.size wb W := by rw [eW]; exact (Below.refl _ _).alloc (Nat.le_refl _) _
    have s1 : W.cell? ⟨wb.heap.size, 1, none⟩ = some (.int .i8 k) := by rw [eW]; simp [go_sem]
    rw [← eW]
    clear eW
    have hBW := hBb.trans (hbW.mono hBb.size)
    have q0 := frozen_later hbW r0 q0
    have q1 := frozen_later hbW r1 q1
    have q2 := frozen_later hbW r2 q2
    have r0 := cell_later hbW r0
    have r1 := cell_later hbW r1
    have r2 := cell_later hbW r2
    have hne : w.heap.size + 1 ≠ wb.heap.size := by omega
    clear hBb hbb hbW hlt
    generalize wb.heap.size = bp at *
    go_region_held3 (fun w' => Below w.heap.size w w' ∧ w'.cell? ⟨bp, 1, none⟩ = some (.int .i8 k))
      (first
        | (exact ⟨hBW.drew, s1⟩)
        | (have hX := below_step (Below.refl W.heap.size W).drew hbx; exact ⟨hBW.trans (hX.mono hBW.size), cell_later hX s1⟩)
        | (obtain ⟨hX0, t1⟩ := ‹Below w.heap.size w _ ∧ _›; exact ⟨((hX0.setCell (by simp) _).setCell (by simp) _).setCell (by simp) _, by simp [go_sem, t1]⟩))
      ((go_at_call 141; refine (hwh _).mono ?_; rintro e wx ⟨⟨v2, rfl, a3, n3, k3, a4, n4, k4, rfl, hv3, hv4⟩, hbx⟩; have hA2 := below_step (Below.refl W.heap.size W).drew hbx; have u0 := cell_later hA2 r0; have u1 := cell_later hA2 r1; have u2 := cell_later hA2 r2; have o0 := frozen_later hA2 r0 q0; have o1 := frozen_later hA2 r1 q1; have o2 := frozen_later hA2 r2 q2))
    all_goals
      have hBx := hBW.trans (hA2.mono hBW.size)
      go_wp2
      refine bodyPost_ret (v := .tuple #[.agg #[.bool false, .slice a3 n3 k3, .slice a4 n4 k4], .int .i8 k]) (by simp [results, Oahg.results101, go_sem, u0, u1, u2]) rfl ⟨⟨_, rfl, _, _, _, _, _, _, rfl, ?_, ?_⟩, ?_⟩
      · exact ((hv3.set u0 (fun _ h => by cases h) _).set (c := .slice none 0 0) (by simp [go_sem, u1]) (fun _ h => by cases h) _).set (c := .slice none 0 0) (by simp [go_sem, u2]) (fun _ h => by cases h) _
      · exact ((hv4.set u0 (fun _ h => by cases h) _).set (c := .slice none 0 0) (by simp [go_sem, u1]) (fun _ h => by cases h) _).set (c := .slice none 0 0) (by simp [go_sem, u2]) (fun _ h => by cases h) _
      · exact ((hBx.setCell (by simp) _).setCell (by simp) _).setCell (by simp) _

end Go.Proofs.Ygcoah
