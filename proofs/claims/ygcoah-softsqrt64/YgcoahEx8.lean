/-
  THE WALKS OF PACKAGE exact, 8: Value.
-/
import Derived.Test.YgcoahEx7
import Derived.Test.YgcoahTwo3
import Derived.Test.YgcoahAddN
namespace Go.Proofs.Ygcoah
open Go.RowKit

set_option maxRecDepth 100000 in
set_option maxHeartbeats 3200000 in
theorem value_num (E M x k mn : Nat) (ng : Bool) (ex : Int) (w : World) (h : FOk E M) (hx : x < 18446744073709551616) (hu : unp E M x = ⟨ng, k, ex, mn⟩) (hk : k ≤ 2) (hm : mn < 9007199254740992) (e1 : -1200 ≤ ex) (e2 : ex ≤ 1100) :
    Calls Oahg.prog 101 #[.agg #[.int .u8 E, .int .u8 M], .int .u64 x] w fun e w' => (∃ v, e = .returned (.tuple #[v, .int .i8 k]) ∧ RatV w' v ng (mn * P2 ex) (P2 (-ex))) ∧ Below w.heap.size w w' := by
  have hun := fun w' => unpack_pt E M x w' h hx
  rw [hu] at hun
  unfold ptV at hun
  simp only [] at hun
  have hfu := fun w' => fromU64_any mn w' (by omega)
  have hsm : Small mn := Small.of (k := 53) (by omega) (by decide)
  have hsc := fun (w' : World) (b : Option Addr) (m cb : Nat) (h : NatV w' (.slice b m cb) mn) => scaledN ng ex h hsm (by omega) (by omega)
  have b4 : ((k : Int) == 4) = false := by rw [beq_eq_false_iff_ne]; omega
  have b3 : ((k : Int) == 3) = false := by rw [beq_eq_false_iff_ne]; omega
  have we : IntKind.i64.wrap ex = ex := IntWalk.i64_in _ (by omega)
  generalize mn * P2 ex = N at *
  generalize P2 (-ex) = D at *
  clear hu hsm
  go_enter Oahg.func101, Oahg.ntmps101
  go_wp2_with fail
  refine (okT _ _ _ h).mono ?_
  rintro e wa ⟨rfl, hba⟩
  have c0 : wa.cell? ⟨w.heap.size, 0, none⟩ = some (.int .u8 E) := cell_later hba (by simp [go_sem])
  have c1 : wa.cell? ⟨w.heap.size, 1, none⟩ = some (.int .u8 M) := cell_later hba (by simp [go_sem])
  have r0 : wa.cell? ⟨w.heap.size + 1, 0, none⟩ = some (.bool false) := cell_later hba (by simp [go_sem])
  have r1 : wa.cell? ⟨w.heap.size + 1, 1, none⟩ = some (.slice none 0 0) := cell_later hba (by simp [go_sem])
  have r2 : wa.cell? ⟨w.heap.size + 1, 2, none⟩ = some (.slice none 0 0) := cell_later hba (by simp [go_sem])
  have q0 : wa.frozen? ⟨w.heap.size + 1, 0, none⟩ = false := by rw [hba.frozen (p := ⟨w.heap.size + 1, 0, none⟩) (by simp)]; simp [go_sem]
  have q1 : wa.frozen? ⟨w.heap.size + 1, 1, none⟩ = false := by rw [hba.frozen (p := ⟨w.heap.size + 1, 1, none⟩) (by simp)]; simp [go_sem]
  have q2 : wa.frozen? ⟨w.heap.size + 1, 2, none⟩ = false := by rw [hba.frozen (p := ⟨w.heap.size + 1, 2, none⟩) (by simp)]; simp [go_sem]
  have hBa : Below w.heap.size w wa := (((Below.refl _ _).alloc (Nat.le_refl _) _).alloc (by simp) _).trans (hba.mono (by simp; omega))
  clear hba
  go_wp2_with fail
  refine (hun _).mono ?_
  rintro e wb ⟨⟨v, rfl, rfl⟩, hbb⟩
  have hBb := hBa.trans (hbb.mono hBa.size)
  have q0 := frozen_later hbb r0 q0
  have q1 := frozen_later hbb r1 q1
  have q2 := frozen_later hbb r2 q2
  have hlt : w.heap.size + 1 < wb.heap.size := Nat.lt_of_lt_of_le (World.block_lt_of_cell? _ _ r0) hbb.size
  have r0 := cell_later hbb r0
  have r1 := cell_later hbb r1
  have r2 := cell_later hbb r2
  clear c0 c1 hun hBa
  go_wp2
  obtain ⟨W, eW⟩ : ∃ W, W = wb.alloc (.cells #[.bool ng, .int .i8 k, .int .i16 ex, .int .u64 mn] 63) := ⟨_, rfl⟩
  have hbW : Below wb.heap.size wb W := by rw [eW]; exact (Below.refl _ _).alloc (Nat.le_refl _) _
  have s0 : W.cell? ⟨wb.heap.size, 0, none⟩ = some (.bool ng) := by rw [eW]; simp [go_sem]
  have s1 : W.cell? ⟨wb.heap.size, 1, none⟩ = some (.int .i8 k) := by rw [eW]; simp [go_sem]
  have s2 : W.cell? ⟨wb.heap.size, 2, none⟩ = some (.int .i16 ex) := by rw [eW]; simp [go_sem]
  have s3 : W.cell? ⟨wb.heap.size, 3, none⟩ = some (.int .u64 mn) := by rw [eW]; simp [go_sem]
  rw [← eW]
  clear eW
  have hBW := hBb.trans (hbW.mono hBb.size)
  have q0 := frozen_later hbW r0 q0
  have q1 := frozen_later hbW r1 q1
  have q2 := frozen_later hbW r2 q2
  have r0 := cell_later hbW r0
  have r1 := cell_later hbW r1
  have r2 := cell_later hbW r2
  have hne : w.heap.size + 1 ≠ wb.heap.size := by omega
  clear hBb hbb hbW hlt
  generalize wb.heap.size = bp at *
  go_region_held3 (fun w' => Below w.heap.size w w' ∧ w'.cell? ⟨bp, 0, none⟩ = some (.bool ng) ∧ w'.cell? ⟨bp, 1, none⟩ = some (.int .i8 k) ∧ w'.cell? ⟨bp, 2, none⟩ = some (.int .i16 ex) ∧ w'.cell? ⟨bp, 3, none⟩ = some (.int .u64 mn))
    (first
      | (exact ⟨hBW.drew, s0, s1, s2, s3⟩)
      | (have hX := below_step (Below.refl W.heap.size W).drew hbx; exact ⟨hBW.trans (hX.mono hBW.size), cell_later hX s0, cell_later hX s1, cell_later hX s2, cell_later hX s3⟩)
      | (obtain ⟨hX0, t0, t1, t2, t3⟩ := ‹Below w.heap.size w _ ∧ _›; exact ⟨below_step hX0 hbx, cell_later hbx t0, cell_later hbx t1, cell_later hbx t2, cell_later hbx t3⟩)
      | (obtain ⟨hX0, t0, t1, t2, t3⟩ := ‹Below w.heap.size w _ ∧ _›; exact ⟨((hX0.setCell (by simp) _).setCell (by simp) _).setCell (by simp) _, by simp [go_sem, t0], by simp [go_sem, t1], by simp [go_sem, t2], by simp [go_sem, t3]⟩))
    (first
      | (go_at_call 38; refine (hfu _).mono ?_; rintro e wx ⟨⟨v1, rfl, hv1⟩, hbx⟩; obtain ⟨b1, n1, k1, rfl⟩ := hv1.form; have hA := below_step (Below.refl W.heap.size W).drew hbx)
      | (go_at_call 142; refine (hsc _ _ _ _ (by assumption)).mono ?_; rintro e wx ⟨⟨v2, rfl, a3, n3, k3, a4, n4, k4, rfl, hv3, hv4⟩, hbx⟩; have hA2 := below_step hA hbx; have u0 := cell_later hA2 r0; have u1 := cell_later hA2 r1; have u2 := cell_later hA2 r2; have o0 := frozen_later hA2 r0 q0; have o1 := frozen_later hA2 r1 q1; have o2 := frozen_later hA2 r2 q2))
  all_goals
    have hBx := hBW.trans (hA2.mono hBW.size)
    go_wp2
    refine bodyPost_ret (v := .tuple #[.agg #[.bool ng, .slice a3 n3 k3, .slice a4 n4 k4], .int .i8 k]) (by simp [results, Oahg.results101, go_sem, u0, u1, u2]) rfl ⟨⟨_, rfl, _, _, _, _, _, _, rfl, ?_, ?_⟩, ?_⟩
    · exact ((hv3.set u0 (fun _ h => by cases h) _).set (c := .slice none 0 0) (by simp [go_sem, u1]) (fun _ h => by cases h) _).set (c := .slice none 0 0) (by simp [go_sem, u2]) (fun _ h => by cases h) _
    · exact ((hv4.set u0 (fun _ h => by cases h) _).set (c := .slice none 0 0) (by simp [go_sem, u1]) (fun _ h => by cases h) _).set (c := .slice none 0 0) (by simp [go_sem, u2]) (fun _ h => by cases h) _
    · exact ((hBx.setCell (by simp) _).setCell (by simp) _).setCell (by simp) _

end Go.Proofs.Ygcoah
