/-
  THE WALKS OF PACKAGE soft, sum: the case B2.
-/
import Derived.Test.YgcoahSoft6
namespace Go.Proofs.Ygcoah
open Go.RowKit

set_option maxRecDepth 100000 in
set_option maxHeartbeats 1600000 in
theorem sum_B2_eq (E M mode mx my g : Nat) (nx : Bool) (ex : Int) (w : World) (h : FOk E M) (hx : mx < 170141183460469231731687303715884105728) (hy : my < 170141183460469231731687303715884105728) (hx0 : 0 < mx) (hx1 : -2000 ≤ ex) (hx2 : ex ≤ 2000) (hg : g = 0) (hmm : my ≤ mx)  :
    Calls Oahg.prog 132 #[.agg #[.int .u8 E, .int .u8 M], .int .u8 mode, .agg #[.bool nx, .int .i16 ex, .int .u64 (hiW mx), .int .u64 (loW mx)], .agg #[.bool nx, .int .i16 ex, .int .u64 (hiW my), .int .u64 (loW my)]] w fun r w' => (∃ fl : Int, r = .returned (.tuple #[.int .u64 (softR E M mode nx (ex - 64 + (bl (mx + shrJ my g) : Int)) (jamP (mx + shrJ my g))), .int .u8 fl])) ∧ Below w.heap.size w w' := by
  have hsj := fun w' => shrJam_any my g w' (by omega) (by omega)
  have hle : shrJ my g ≤ my := shrJ_le my _
  have hy0 : shrJ my g < 170141183460469231731687303715884105728 := by omega
  generalize shrJ my g = z at *
  subst hg
  have eg : ((0 : Nat) : Int) = 0 := rfl
  rw [eg] at hsj
  have hcm := fun w' => wcmp_any mx my w'
  have hcc : 0 ≤ cmpI mx my := by unfold cmpI; rw [if_neg (by omega)]; split <;> decide
  generalize cmpI mx my = cc at *
  obtain ⟨T, eT⟩ : ∃ T, T = mx + z := ⟨_, rfl⟩
  have had := fun w' => wadd_any mx z w' (by omega)
  rw [← eT] at had ⊢
  have hT0 : 0 < T := by omega
  have hT1 : T < 340282366920938463463374607431768211456 := by omega
  have hbT : bl T ≤ 128 := (bl_le_iff _ _).2 hT1
  have hjm := fun w' => jam_any T ex w' hT0 hT1 (by omega) (by omega)
  have hjp : 0 < jamP T ∧ jamP T < 18446744073709551616 := jamP_pos T hT0 hT1
  have hrp := fun w' => roundPack_any E M mode nx (ex - 64 + (bl T : Int)) (jamP T) w' h hjp.1 hjp.2 (by omega) (by omega)
  have hne : bits .or .u64 (hiW T : Int) (loW T : Int) ≠ 0 := or_words_ne T hT0 hT1
  have hnb : (bits .or .u64 (hiW T : Int) (loW T : Int) == 0) = false := by rw [beq_eq_false_iff_ne]; exact hne
  generalize softR E M mode nx (ex - 64 + (bl T : Int)) (jamP T) = V at *
  generalize ex - 64 + (bl T : Int) = eT2 at *
  generalize jamP T = J at *
  have HT : Hid (0 < T) := hT0
  clear hne hjp hbT hT0 hT1 eT
  clear hle
  go_enter Oahg.func132, Oahg.ntmps132
  go_wp2_with fail
  refine (hcm _).mono ?_
  rintro e w0 ⟨rfl, hb0⟩
  have t0 : w0.cell? ⟨w.heap.size, 0, none⟩ = some (.int .u8 E) := cell_later hb0 (by simp [go_sem])
  have t1 : w0.cell? ⟨w.heap.size, 1, none⟩ = some (.int .u8 M) := cell_later hb0 (by simp [go_sem])
  have c0 : w0.cell? ⟨w.heap.size + 1, 0, none⟩ = some (.bool nx) := cell_later hb0 (by simp [go_sem])
  have fc0 : w0.frozen? ⟨w.heap.size + 1, 0, none⟩ = false := by rw [hb0.frozen (p := ⟨w.heap.size + 1, 0, none⟩) (by simp)]; simp [go_sem]
  have c1 : w0.cell? ⟨w.heap.size + 1, 1, none⟩ = some (.int .i16 ex) := cell_later hb0 (by simp [go_sem])
  have fc1 : w0.frozen? ⟨w.heap.size + 1, 1, none⟩ = false := by rw [hb0.frozen (p := ⟨w.heap.size + 1, 1, none⟩) (by simp)]; simp [go_sem]
  have c2 : w0.cell? ⟨w.heap.size + 1, 2, none⟩ = some (.int .u64 (hiW mx)) := cell_later hb0 (by simp [go_sem])
  have fc2 : w0.frozen? ⟨w.heap.size + 1, 2, none⟩ = false := by rw [hb0.frozen (p := ⟨w.heap.size + 1, 2, none⟩) (by simp)]; simp [go_sem]
  have c3 : w0.cell? ⟨w.heap.size + 1, 3, none⟩ = some (.int .u64 (loW mx)) := cell_later hb0 (by simp [go_sem])
  have fc3 : w0.frozen? ⟨w.heap.size + 1, 3, none⟩ = false := by rw [hb0.frozen (p := ⟨w.heap.size + 1, 3, none⟩) (by simp)]; simp [go_sem]
  have d0 : w0.cell? ⟨w.heap.size + 1 + 1, 0, none⟩ = some (.bool nx) := cell_later hb0 (by simp [go_sem])
  have fd0 : w0.frozen? ⟨w.heap.size + 1 + 1, 0, none⟩ = false := by rw [hb0.frozen (p := ⟨w.heap.size + 1 + 1, 0, none⟩) (by simp)]; simp [go_sem]
  have d1 : w0.cell? ⟨w.heap.size + 1 + 1, 1, none⟩ = some (.int .i16 ex) := cell_later hb0 (by simp [go_sem])
  have fd1 : w0.frozen? ⟨w.heap.size + 1 + 1, 1, none⟩ = false := by rw [hb0.frozen (p := ⟨w.heap.size + 1 + 1, 1, none⟩) (by simp)]; simp [go_sem]
  have d2 : w0.cell? ⟨w.heap.size + 1 + 1, 2, none⟩ = some (.int .u64 (hiW my)) := cell_later hb0 (by simp [go_sem])
  have fd2 : w0.frozen? ⟨w.heap.size + 1 + 1, 2, none⟩ = false := by rw [hb0.frozen (p := ⟨w.heap.size + 1 + 1, 2, none⟩) (by simp)]; simp [go_sem]
  have d3 : w0.cell? ⟨w.heap.size + 1 + 1, 3, none⟩ = some (.int .u64 (loW my)) := cell_later hb0 (by simp [go_sem])
  have fd3 : w0.frozen? ⟨w.heap.size + 1 + 1, 3, none⟩ = false := by rw [hb0.frozen (p := ⟨w.heap.size + 1 + 1, 3, none⟩) (by simp)]; simp [go_sem]
  have hB0 : Below w.heap.size w w0 := ((((Below.refl _ _).alloc (Nat.le_refl _) _).alloc (by simp) _).alloc (by simp; omega) _).trans (hb0.mono (by simp; omega))
  clear hb0
  go_wp2_with fail
  refine (hsj _).mono ?_
  rintro e w1 ⟨rfl, hb1⟩
  have s0 : w1.cell? ⟨w.heap.size, 0, none⟩ = some (.int .u8 E) := cell_later hb1 (by simp [go_sem, t0])
  have s1 : w1.cell? ⟨w.heap.size, 1, none⟩ = some (.int .u8 M) := cell_later hb1 (by simp [go_sem, t1])
  have a0 : w1.cell? ⟨w.heap.size + 1, 0, none⟩ = some (.bool nx) := cell_later hb1 (by simp [go_sem, c0])
  have a1 : w1.cell? ⟨w.heap.size + 1, 1, none⟩ = some (.int .i16 ex) := cell_later hb1 (by simp [go_sem, c1])
  have a2 : w1.cell? ⟨w.heap.size + 1, 2, none⟩ = some (.int .u64 (hiW mx)) := cell_later hb1 (by simp [go_sem, c2])
  have fa2 : w1.frozen? ⟨w.heap.size + 1, 2, none⟩ = false := frozen_later hb1 (v := .int .u64 (hiW mx)) (by simp [go_sem, c2]) (by simp [go_sem, fc2])
  have a3 : w1.cell? ⟨w.heap.size + 1, 3, none⟩ = some (.int .u64 (loW mx)) := cell_later hb1 (by simp [go_sem, c3])
  have fa3 : w1.frozen? ⟨w.heap.size + 1, 3, none⟩ = false := frozen_later hb1 (v := .int .u64 (loW mx)) (by simp [go_sem, c3]) (by simp [go_sem, fc3])
  have b0 : w1.cell? ⟨w.heap.size + 1 + 1, 0, none⟩ = some (.bool nx) := cell_later hb1 (by simp [go_sem, d0])
  have b2 : w1.cell? ⟨w.heap.size + 1 + 1, 2, none⟩ = some (.int .u64 (hiW my)) := cell_later hb1 (by simp [go_sem, d2])
  have fb2 : w1.frozen? ⟨w.heap.size + 1 + 1, 2, none⟩ = false := frozen_later hb1 (v := .int .u64 (hiW my)) (by simp [go_sem, d2]) (by simp [go_sem, fd2])
  have b3 : w1.cell? ⟨w.heap.size + 1 + 1, 3, none⟩ = some (.int .u64 (loW my)) := cell_later hb1 (by simp [go_sem, d3])
  have fb3 : w1.frozen? ⟨w.heap.size + 1 + 1, 3, none⟩ = false := frozen_later hb1 (v := .int .u64 (loW my)) (by simp [go_sem, d3]) (by simp [go_sem, fd3])
  have hB1 : Below w.heap.size w w1 := hB0.trans (hb1.mono hB0.size)
  clear hb1 hcm t0 t1 c0 c1 c2 c3 d0 d1 d2 d3 fc0 fc1 fc2 fc3 fd0 fd1 fd2 fd3 hB0
  clear hsj
  go_wp2_with fail
  refine (had _).mono ?_
  rintro e w3 ⟨rfl, hb3⟩
  have s03 : w3.cell? ⟨w.heap.size, 0, none⟩ = some (.int .u8 E) := cell_later hb3 (by simp [go_sem, s0])
  have s13 : w3.cell? ⟨w.heap.size, 1, none⟩ = some (.int .u8 M) := cell_later hb3 (by simp [go_sem, s1])
  have a03 : w3.cell? ⟨w.heap.size + 1, 0, none⟩ = some (.bool nx) := cell_later hb3 (by simp [go_sem, a0])
  have a13 : w3.cell? ⟨w.heap.size + 1, 1, none⟩ = some (.int .i16 ex) := cell_later hb3 (by simp [go_sem, a1])
  have a23 : w3.cell? ⟨w.heap.size + 1, 2, none⟩ = some (.int .u64 (hiW mx)) := cell_later hb3 (by simp [go_sem, a2])
  have a33 : w3.cell? ⟨w.heap.size + 1, 3, none⟩ = some (.int .u64 (loW mx)) := cell_later hb3 (by simp [go_sem, a3])
  have fa23 : w3.frozen? ⟨w.heap.size + 1, 2, none⟩ = false := frozen_later hb3 (v := .int .u64 (hiW mx)) (by simp [go_sem, a2]) (by simp [go_sem, fa2])
  have fa33 : w3.frozen? ⟨w.heap.size + 1, 3, none⟩ = false := frozen_later hb3 (v := .int .u64 (loW mx)) (by simp [go_sem, a3]) (by simp [go_sem, fa3])
  have hB3 : Below w.heap.size w w3 := ((hB1.setCell (by simp; omega) _).setCell (by simp; omega) _).trans (hb3.mono (by simp; exact hB1.size))
  clear hb3 hB1 had s0 s1 a0 a1 a2 a3 fa2 fa3 b0 b2 b3 fb2 fb3
  go_wp2_with fail
  refine (hjm _).mono ?_
  rintro e w4 ⟨rfl, hb4⟩
  have s04 : w4.cell? ⟨w.heap.size, 0, none⟩ = some (.int .u8 E) := cell_later hb4 (by simp [go_sem, s03])
  have s14 : w4.cell? ⟨w.heap.size, 1, none⟩ = some (.int .u8 M) := cell_later hb4 (by simp [go_sem, s13])
  have a04 : w4.cell? ⟨w.heap.size + 1, 0, none⟩ = some (.bool nx) := cell_later hb4 (by simp [go_sem, a03])
  have hB4 : Below w.heap.size w w4 := ((hB3.setCell (by simp) _).setCell (by simp) _).trans (hb4.mono (by simp; exact hB3.size))
  clear hb4 hB3 hjm s03 s13 a03 a13 a23 a33 fa23 fa33
  go_wp2_with fail
  refine (hrp _).mono ?_
  rintro e w5 ⟨⟨fl, rfl⟩, hb5⟩
  go_wp2
  go_ret2
  exact ⟨⟨fl, rfl⟩, hB4.trans (hb5.mono hB4.size)⟩

set_option maxRecDepth 100000 in
set_option maxHeartbeats 1600000 in
theorem sum_B2_ne (E M mode mx my g : Nat) (nx ny : Bool) (ex : Int) (w : World) (h : FOk E M) (hx : mx < 170141183460469231731687303715884105728) (hy : my < 170141183460469231731687303715884105728) (hx0 : 0 < mx) (hx1 : -2000 ≤ ex) (hx2 : ex ≤ 2000) (hg : g = 0) (hmm : my ≤ mx) (hsg : nx ≠ ny) (hT : shrJ my g < mx) :
    Calls Oahg.prog 132 #[.agg #[.int .u8 E, .int .u8 M], .int .u8 mode, .agg #[.bool nx, .int .i16 ex, .int .u64 (hiW mx), .int .u64 (loW mx)], .agg #[.bool ny, .int .i16 ex, .int .u64 (hiW my), .int .u64 (loW my)]] w fun r w' => (∃ fl : Int, r = .returned (.tuple #[.int .u64 (softR E M mode nx (ex - 64 + (bl (mx - shrJ my g) : Int)) (jamP (mx - shrJ my g))), .int .u8 fl])) ∧ Below w.heap.size w w' := by
  have hsj := fun w' => shrJam_any my g w' (by omega) (by omega)
  have hle : shrJ my g ≤ my := shrJ_le my _
  have hy0 : shrJ my g < 170141183460469231731687303715884105728 := by omega
  generalize shrJ my g = z at *
  subst hg
  have eg : ((0 : Nat) : Int) = 0 := rfl
  rw [eg] at hsj
  have hcm := fun w' => wcmp_any mx my w'
  have hcc : 0 ≤ cmpI mx my := by unfold cmpI; rw [if_neg (by omega)]; split <;> decide
  generalize cmpI mx my = cc at *
  obtain ⟨T, eT⟩ : ∃ T, T = mx - z := ⟨_, rfl⟩
  have had := fun w' => wsub_any mx z w' (by omega) (by omega)
  rw [← eT] at had ⊢
  have hc2 := fun w' => wcmp_any mx z w'
  have hcc2 : cmpI mx z = 1 := by unfold cmpI; rw [if_neg (by omega), if_neg (by omega)]
  rw [hcc2] at hc2
  have hT0 : 0 < T := by omega
  have hT1 : T < 340282366920938463463374607431768211456 := by omega
  have hbT : bl T ≤ 128 := (bl_le_iff _ _).2 hT1
  have hjm := fun w' => jam_any T ex w' hT0 hT1 (by omega) (by omega)
  have hjp : 0 < jamP T ∧ jamP T < 18446744073709551616 := jamP_pos T hT0 hT1
  have hrp := fun w' => roundPack_any E M mode nx (ex - 64 + (bl T : Int)) (jamP T) w' h hjp.1 hjp.2 (by omega) (by omega)
  have hne : bits .or .u64 (hiW T : Int) (loW T : Int) ≠ 0 := or_words_ne T hT0 hT1
  have hnb : (bits .or .u64 (hiW T : Int) (loW T : Int) == 0) = false := by rw [beq_eq_false_iff_ne]; exact hne
  generalize softR E M mode nx (ex - 64 + (bl T : Int)) (jamP T) = V at *
  generalize ex - 64 + (bl T : Int) = eT2 at *
  generalize jamP T = J at *
  have HT : Hid (0 < T) := hT0
  clear hne hjp hbT hT0 hT1 eT
  clear hle
  have bsg : (nx == ny) = false := by simpa using hsg
  go_enter Oahg.func132, Oahg.ntmps132
  go_wp2_with fail
  refine (hcm _).mono ?_
  rintro e w0 ⟨rfl, hb0⟩
  have t0 : w0.cell? ⟨w.heap.size, 0, none⟩ = some (.int .u8 E) := cell_later hb0 (by simp [go_sem])
  have t1 : w0.cell? ⟨w.heap.size, 1, none⟩ = some (.int .u8 M) := cell_later hb0 (by simp [go_sem])
  have c0 : w0.cell? ⟨w.heap.size + 1, 0, none⟩ = some (.bool nx) := cell_later hb0 (by simp [go_sem])
  have fc0 : w0.frozen? ⟨w.heap.size + 1, 0, none⟩ = false := by rw [hb0.frozen (p := ⟨w.heap.size + 1, 0, none⟩) (by simp)]; simp [go_sem]
  have c1 : w0.cell? ⟨w.heap.size + 1, 1, none⟩ = some (.int .i16 ex) := cell_later hb0 (by simp [go_sem])
  have fc1 : w0.frozen? ⟨w.heap.size + 1, 1, none⟩ = false := by rw [hb0.frozen (p := ⟨w.heap.size + 1, 1, none⟩) (by simp)]; simp [go_sem]
  have c2 : w0.cell? ⟨w.heap.size + 1, 2, none⟩ = some (.int .u64 (hiW mx)) := cell_later hb0 (by simp [go_sem])
  have fc2 : w0.frozen? ⟨w.heap.size + 1, 2, none⟩ = false := by rw [hb0.frozen (p := ⟨w.heap.size + 1, 2, none⟩) (by simp)]; simp [go_sem]
  have c3 : w0.cell? ⟨w.heap.size + 1, 3, none⟩ = some (.int .u64 (loW mx)) := cell_later hb0 (by simp [go_sem])
  have fc3 : w0.frozen? ⟨w.heap.size + 1, 3, none⟩ = false := by rw [hb0.frozen (p := ⟨w.heap.size + 1, 3, none⟩) (by simp)]; simp [go_sem]
  have d0 : w0.cell? ⟨w.heap.size + 1 + 1, 0, none⟩ = some (.bool ny) := cell_later hb0 (by simp [go_sem])
  have fd0 : w0.frozen? ⟨w.heap.size + 1 + 1, 0, none⟩ = false := by rw [hb0.frozen (p := ⟨w.heap.size + 1 + 1, 0, none⟩) (by simp)]; simp [go_sem]
  have d1 : w0.cell? ⟨w.heap.size + 1 + 1, 1, none⟩ = some (.int .i16 ex) := cell_later hb0 (by simp [go_sem])
  have fd1 : w0.frozen? ⟨w.heap.size + 1 + 1, 1, none⟩ = false := by rw [hb0.frozen (p := ⟨w.heap.size + 1 + 1, 1, none⟩) (by simp)]; simp [go_sem]
  have d2 : w0.cell? ⟨w.heap.size + 1 + 1, 2, none⟩ = some (.int .u64 (hiW my)) := cell_later hb0 (by simp [go_sem])
  have fd2 : w0.frozen? ⟨w.heap.size + 1 + 1, 2, none⟩ = false := by rw [hb0.frozen (p := ⟨w.heap.size + 1 + 1, 2, none⟩) (by simp)]; simp [go_sem]
  have d3 : w0.cell? ⟨w.heap.size + 1 + 1, 3, none⟩ = some (.int .u64 (loW my)) := cell_later hb0 (by simp [go_sem])
  have fd3 : w0.frozen? ⟨w.heap.size + 1 + 1, 3, none⟩ = false := by rw [hb0.frozen (p := ⟨w.heap.size + 1 + 1, 3, none⟩) (by simp)]; simp [go_sem]
  have hB0 : Below w.heap.size w w0 := ((((Below.refl _ _).alloc (Nat.le_refl _) _).alloc (by simp) _).alloc (by simp; omega) _).trans (hb0.mono (by simp; omega))
  clear hb0
  go_wp2_with fail
  refine (hsj _).mono ?_
  rintro e w1 ⟨rfl, hb1⟩
  have s0 : w1.cell? ⟨w.heap.size, 0, none⟩ = some (.int .u8 E) := cell_later hb1 (by simp [go_sem, t0])
  have s1 : w1.cell? ⟨w.heap.size, 1, none⟩ = some (.int .u8 M) := cell_later hb1 (by simp [go_sem, t1])
  have a0 : w1.cell? ⟨w.heap.size + 1, 0, none⟩ = some (.bool nx) := cell_later hb1 (by simp [go_sem, c0])
  have a1 : w1.cell? ⟨w.heap.size + 1, 1, none⟩ = some (.int .i16 ex) := cell_later hb1 (by simp [go_sem, c1])
  have a2 : w1.cell? ⟨w.heap.size + 1, 2, none⟩ = some (.int .u64 (hiW mx)) := cell_later hb1 (by simp [go_sem, c2])
  have fa2 : w1.frozen? ⟨w.heap.size + 1, 2, none⟩ = false := frozen_later hb1 (v := .int .u64 (hiW mx)) (by simp [go_sem, c2]) (by simp [go_sem, fc2])
  have a3 : w1.cell? ⟨w.heap.size + 1, 3, none⟩ = some (.int .u64 (loW mx)) := cell_later hb1 (by simp [go_sem, c3])
  have fa3 : w1.frozen? ⟨w.heap.size + 1, 3, none⟩ = false := frozen_later hb1 (v := .int .u64 (loW mx)) (by simp [go_sem, c3]) (by simp [go_sem, fc3])
  have b0 : w1.cell? ⟨w.heap.size + 1 + 1, 0, none⟩ = some (.bool ny) := cell_later hb1 (by simp [go_sem, d0])
  have b2 : w1.cell? ⟨w.heap.size + 1 + 1, 2, none⟩ = some (.int .u64 (hiW my)) := cell_later hb1 (by simp [go_sem, d2])
  have fb2 : w1.frozen? ⟨w.heap.size + 1 + 1, 2, none⟩ = false := frozen_later hb1 (v := .int .u64 (hiW my)) (by simp [go_sem, d2]) (by simp [go_sem, fd2])
  have b3 : w1.cell? ⟨w.heap.size + 1 + 1, 3, none⟩ = some (.int .u64 (loW my)) := cell_later hb1 (by simp [go_sem, d3])
  have fb3 : w1.frozen? ⟨w.heap.size + 1 + 1, 3, none⟩ = false := frozen_later hb1 (v := .int .u64 (loW my)) (by simp [go_sem, d3]) (by simp [go_sem, fd3])
  have hB1 : Below w.heap.size w w1 := hB0.trans (hb1.mono hB0.size)
  clear hb1 hcm t0 t1 c0 c1 c2 c3 d0 d1 d2 d3 fc0 fc1 fc2 fc3 fd0 fd1 fd2 fd3 hB0
  clear hsj
  go_wp2_with fail
  refine (hc2 _).mono ?_
  rintro e w2 ⟨rfl, hb2⟩
  have s02 : w2.cell? ⟨w.heap.size, 0, none⟩ = some (.int .u8 E) := cell_later hb2 (by simp [go_sem, s0])
  have s12 : w2.cell? ⟨w.heap.size, 1, none⟩ = some (.int .u8 M) := cell_later hb2 (by simp [go_sem, s1])
  have a02 : w2.cell? ⟨w.heap.size + 1, 0, none⟩ = some (.bool nx) := cell_later hb2 (by simp [go_sem, a0])
  have a12 : w2.cell? ⟨w.heap.size + 1, 1, none⟩ = some (.int .i16 ex) := cell_later hb2 (by simp [go_sem, a1])
  have a22 : w2.cell? ⟨w.heap.size + 1, 2, none⟩ = some (.int .u64 (hiW mx)) := cell_later hb2 (by simp [go_sem, a2])
  have a32 : w2.cell? ⟨w.heap.size + 1, 3, none⟩ = some (.int .u64 (loW mx)) := cell_later hb2 (by simp [go_sem, a3])
  have fa22 : w2.frozen? ⟨w.heap.size + 1, 2, none⟩ = false := frozen_later hb2 (v := .int .u64 (hiW mx)) (by simp [go_sem, a2]) (by simp [go_sem, fa2])
  have fa32 : w2.frozen? ⟨w.heap.size + 1, 3, none⟩ = false := frozen_later hb2 (v := .int .u64 (loW mx)) (by simp [go_sem, a3]) (by simp [go_sem, fa3])
  have b22 : w2.cell? ⟨w.heap.size + 1 + 1, 2, none⟩ = some (.int .u64 (hiW z)) := cell_later hb2 (by simp [go_sem, b2])
  have b32 : w2.cell? ⟨w.heap.size + 1 + 1, 3, none⟩ = some (.int .u64 (loW z)) := cell_later hb2 (by simp [go_sem, b3])
  have hB2 : Below w.heap.size w w2 := ((hB1.setCell (by simp; omega) _).setCell (by simp; omega) _).trans (hb2.mono (by simp; exact hB1.size))
  clear hb2 hB1 hc2 s0 s1 a0 a1 a2 a3 fa2 fa3 b0 b2 b3 fb2 fb3
  go_wp2_with fail
  refine (had _).mono ?_
  rintro e w3 ⟨rfl, hb3⟩
  have s03 : w3.cell? ⟨w.heap.size, 0, none⟩ = some (.int .u8 E) := cell_later hb3 (by simp [go_sem, s02])
  have s13 : w3.cell? ⟨w.heap.size, 1, none⟩ = some (.int .u8 M) := cell_later hb3 (by simp [go_sem, s12])
  have a03 : w3.cell? ⟨w.heap.size + 1, 0, none⟩ = some (.bool nx) := cell_later hb3 (by simp [go_sem, a02])
  have a13 : w3.cell? ⟨w.heap.size + 1, 1, none⟩ = some (.int .i16 ex) := cell_later hb3 (by simp [go_sem, a12])
  have a23 : w3.cell? ⟨w.heap.size + 1, 2, none⟩ = some (.int .u64 (hiW mx)) := cell_later hb3 (by simp [go_sem, a22])
  have a33 : w3.cell? ⟨w.heap.size + 1, 3, none⟩ = some (.int .u64 (loW mx)) := cell_later hb3 (by simp [go_sem, a32])
  have fa23 : w3.frozen? ⟨w.heap.size + 1, 2, none⟩ = false := frozen_later hb3 (v := .int .u64 (hiW mx)) (by simp [go_sem, a22]) (by simp [go_sem, fa22])
  have fa33 : w3.frozen? ⟨w.heap.size + 1, 3, none⟩ = false := frozen_later hb3 (v := .int .u64 (loW mx)) (by simp [go_sem, a32]) (by simp [go_sem, fa32])
  have hB3 : Below w.heap.size w w3 := hB2.trans (hb3.mono hB2.size)
  clear hb3 hB2 had s02 s12 a02 a12 a22 a32 fa22 fa32 b22 b32
  go_wp2_with fail
  refine (hjm _).mono ?_
  rintro e w4 ⟨rfl, hb4⟩
  have s04 : w4.cell? ⟨w.heap.size, 0, none⟩ = some (.int .u8 E) := cell_later hb4 (by simp [go_sem, s03])
  have s14 : w4.cell? ⟨w.heap.size, 1, none⟩ = some (.int .u8 M) := cell_later hb4 (by simp [go_sem, s13])
  have a04 : w4.cell? ⟨w.heap.size + 1, 0, none⟩ = some (.bool nx) := cell_later hb4 (by simp [go_sem, a03])
  have hB4 : Below w.heap.size w w4 := ((hB3.setCell (by simp) _).setCell (by simp) _).trans (hb4.mono (by simp; exact hB3.size))
  clear hb4 hB3 hjm s03 s13 a03 a13 a23 a33 fa23 fa33
  go_wp2_with fail
  refine (hrp _).mono ?_
  rintro e w5 ⟨⟨fl, rfl⟩, hb5⟩
  go_wp2
  go_ret2
  exact ⟨⟨fl, rfl⟩, hB4.trans (hb5.mono hB4.size)⟩

set_option maxRecDepth 100000 in
set_option maxHeartbeats 1600000 in
theorem sum_B2_z (E M mode mx my g : Nat) (nx ny : Bool) (ex : Int) (w : World) (h : FOk E M) (hx : mx < 170141183460469231731687303715884105728) (hy : my < 170141183460469231731687303715884105728) (hx0 : 0 < mx) (hg : g = 0) (hmm : my ≤ mx) (hsg : nx ≠ ny) (hT : shrJ my g = mx) :
    Calls Oahg.prog 132 #[.agg #[.int .u8 E, .int .u8 M], .int .u8 mode, .agg #[.bool nx, .int .i16 ex, .int .u64 (hiW mx), .int .u64 (loW mx)], .agg #[.bool ny, .int .i16 ex, .int .u64 (hiW my), .int .u64 (loW my)]] w fun r w' => (∃ fl : Int, r = .returned (.tuple #[.int .u64 (sgnP E M (decide (mode = 4))), .int .u8 fl])) ∧ Below w.heap.size w w' := by
  have hsj := fun w' => shrJam_any my g w' (by omega) (by omega)
  have hle : shrJ my g ≤ my := shrJ_le my _
  have hy0 : shrJ my g < 170141183460469231731687303715884105728 := by omega
  generalize shrJ my g = z at *
  have hfm : ∀ W : World, Calls Oahg.prog 51 #[.agg #[.int .u8 E, .int .u8 M], .bool (decide (mode = 4))] W fun r w' => r = .returned (.int .u64 (sgnP E M (decide (mode = 4)))) ∧ Below W.heap.size W w' := fun W => szero_any E M _ W h
  subst hg
  have eg : ((0 : Nat) : Int) = 0 := rfl
  rw [eg] at hsj
  have hcm := fun w' => wcmp_any mx my w'
  have hcc : 0 ≤ cmpI mx my := by unfold cmpI; rw [if_neg (by omega)]; split <;> decide
  generalize cmpI mx my = cc at *
  have had := fun w' => wsub_any mx z w' (by omega) (by omega)
  rw [show mx - z = 0 by omega] at had
  have hc2 := fun w' => wcmp_any mx z w'
  rw [cmpI_eq hT.symm] at hc2
  have hT2 := hT.symm
  subst hT2
  clear hle
  have bsg : (nx == ny) = false := by simpa using hsg
  by_cases hm4 : mode = 4
  · subst hm4
    have e4 : ((4 : Nat) : Int) = 4 := rfl
    have ed4 : decide ((4 : Nat) = 4) = true := rfl
    rw [ed4] at hfm ⊢
    rw [e4]
    have ez : hiW 0 = 0 := rfl
    have ez2 : loW 0 = 0 := rfl
    rw [ez, ez2] at had
    have eq0 : ((0 : Nat) : Int) = 0 := rfl
    rw [eq0] at had
    go_enter Oahg.func132, Oahg.ntmps132
    go_wp2_with fail
    refine (hcm _).mono ?_
    rintro e w0 ⟨rfl, hb0⟩
    have t0 : w0.cell? ⟨w.heap.size, 0, none⟩ = some (.int .u8 E) := cell_later hb0 (by simp [go_sem])
    have t1 : w0.cell? ⟨w.heap.size, 1, none⟩ = some (.int .u8 M) := cell_later hb0 (by simp [go_sem])
    have c0 : w0.cell? ⟨w.heap.size + 1, 0, none⟩ = some (.bool nx) := cell_later hb0 (by simp [go_sem])
    have fc0 : w0.frozen? ⟨w.heap.size + 1, 0, none⟩ = false := by rw [hb0.frozen (p := ⟨w.heap.size + 1, 0, none⟩) (by simp)]; simp [go_sem]
    have c1 : w0.cell? ⟨w.heap.size + 1, 1, none⟩ = some (.int .i16 ex) := cell_later hb0 (by simp [go_sem])
    have fc1 : w0.frozen? ⟨w.heap.size + 1, 1, none⟩ = false := by rw [hb0.frozen (p := ⟨w.heap.size + 1, 1, none⟩) (by simp)]; simp [go_sem]
    have c2 : w0.cell? ⟨w.heap.size + 1, 2, none⟩ = some (.int .u64 (hiW mx)) := cell_later hb0 (by simp [go_sem])
    have fc2 : w0.frozen? ⟨w.heap.size + 1, 2, none⟩ = false := by rw [hb0.frozen (p := ⟨w.heap.size + 1, 2, none⟩) (by simp)]; simp [go_sem]
    have c3 : w0.cell? ⟨w.heap.size + 1, 3, none⟩ = some (.int .u64 (loW mx)) := cell_later hb0 (by simp [go_sem])
    have fc3 : w0.frozen? ⟨w.heap.size + 1, 3, none⟩ = false := by rw [hb0.frozen (p := ⟨w.heap.size + 1, 3, none⟩) (by simp)]; simp [go_sem]
    have d0 : w0.cell? ⟨w.heap.size + 1 + 1, 0, none⟩ = some (.bool ny) := cell_later hb0 (by simp [go_sem])
    have fd0 : w0.frozen? ⟨w.heap.size + 1 + 1, 0, none⟩ = false := by rw [hb0.frozen (p := ⟨w.heap.size + 1 + 1, 0, none⟩) (by simp)]; simp [go_sem]
    have d1 : w0.cell? ⟨w.heap.size + 1 + 1, 1, none⟩ = some (.int .i16 ex) := cell_later hb0 (by simp [go_sem])
    have fd1 : w0.frozen? ⟨w.heap.size + 1 + 1, 1, none⟩ = false := by rw [hb0.frozen (p := ⟨w.heap.size + 1 + 1, 1, none⟩) (by simp)]; simp [go_sem]
    have d2 : w0.cell? ⟨w.heap.size + 1 + 1, 2, none⟩ = some (.int .u64 (hiW my)) := cell_later hb0 (by simp [go_sem])
    have fd2 : w0.frozen? ⟨w.heap.size + 1 + 1, 2, none⟩ = false := by rw [hb0.frozen (p := ⟨w.heap.size + 1 + 1, 2, none⟩) (by simp)]; simp [go_sem]
    have d3 : w0.cell? ⟨w.heap.size + 1 + 1, 3, none⟩ = some (.int .u64 (loW my)) := cell_later hb0 (by simp [go_sem])
    have fd3 : w0.frozen? ⟨w.heap.size + 1 + 1, 3, none⟩ = false := by rw [hb0.frozen (p := ⟨w.heap.size + 1 + 1, 3, none⟩) (by simp)]; simp [go_sem]
    have hB0 : Below w.heap.size w w0 := ((((Below.refl _ _).alloc (Nat.le_refl _) _).alloc (by simp) _).alloc (by simp; omega) _).trans (hb0.mono (by simp; omega))
    clear hb0
    go_wp2_with fail
    refine (hsj _).mono ?_
    rintro e w1 ⟨rfl, hb1⟩
    have s0 : w1.cell? ⟨w.heap.size, 0, none⟩ = some (.int .u8 E) := cell_later hb1 (by simp [go_sem, t0])
    have s1 : w1.cell? ⟨w.heap.size, 1, none⟩ = some (.int .u8 M) := cell_later hb1 (by simp [go_sem, t1])
    have a0 : w1.cell? ⟨w.heap.size + 1, 0, none⟩ = some (.bool nx) := cell_later hb1 (by simp [go_sem, c0])
    have a1 : w1.cell? ⟨w.heap.size + 1, 1, none⟩ = some (.int .i16 ex) := cell_later hb1 (by simp [go_sem, c1])
    have a2 : w1.cell? ⟨w.heap.size + 1, 2, none⟩ = some (.int .u64 (hiW mx)) := cell_later hb1 (by simp [go_sem, c2])
    have fa2 : w1.frozen? ⟨w.heap.size + 1, 2, none⟩ = false := frozen_later hb1 (v := .int .u64 (hiW mx)) (by simp [go_sem, c2]) (by simp [go_sem, fc2])
    have a3 : w1.cell? ⟨w.heap.size + 1, 3, none⟩ = some (.int .u64 (loW mx)) := cell_later hb1 (by simp [go_sem, c3])
    have fa3 : w1.frozen? ⟨w.heap.size + 1, 3, none⟩ = false := frozen_later hb1 (v := .int .u64 (loW mx)) (by simp [go_sem, c3]) (by simp [go_sem, fc3])
    have b0 : w1.cell? ⟨w.heap.size + 1 + 1, 0, none⟩ = some (.bool ny) := cell_later hb1 (by simp [go_sem, d0])
    have b2 : w1.cell? ⟨w.heap.size + 1 + 1, 2, none⟩ = some (.int .u64 (hiW my)) := cell_later hb1 (by simp [go_sem, d2])
    have fb2 : w1.frozen? ⟨w.heap.size + 1 + 1, 2, none⟩ = false := frozen_later hb1 (v := .int .u64 (hiW my)) (by simp [go_sem, d2]) (by simp [go_sem, fd2])
    have b3 : w1.cell? ⟨w.heap.size + 1 + 1, 3, none⟩ = some (.int .u64 (loW my)) := cell_later hb1 (by simp [go_sem, d3])
    have fb3 : w1.frozen? ⟨w.heap.size + 1 + 1, 3, none⟩ = false := frozen_later hb1 (v := .int .u64 (loW my)) (by simp [go_sem, d3]) (by simp [go_sem, fd3])
    have hB1 : Below w.heap.size w w1 := hB0.trans (hb1.mono hB0.size)
    clear hb1 hcm t0 t1 c0 c1 c2 c3 d0 d1 d2 d3 fc0 fc1 fc2 fc3 fd0 fd1 fd2 fd3 hB0
    clear hsj
    go_wp2_with fail
    refine (hc2 _).mono ?_
    rintro e w2 ⟨rfl, hb2⟩
    have s02 : w2.cell? ⟨w.heap.size, 0, none⟩ = some (.int .u8 E) := cell_later hb2 (by simp [go_sem, s0])
    have s12 : w2.cell? ⟨w.heap.size, 1, none⟩ = some (.int .u8 M) := cell_later hb2 (by simp [go_sem, s1])
    have a02 : w2.cell? ⟨w.heap.size + 1, 0, none⟩ = some (.bool nx) := cell_later hb2 (by simp [go_sem, a0])
    have a12 : w2.cell? ⟨w.heap.size + 1, 1, none⟩ = some (.int .i16 ex) := cell_later hb2 (by simp [go_sem, a1])
    have a22 : w2.cell? ⟨w.heap.size + 1, 2, none⟩ = some (.int .u64 (hiW mx)) := cell_later hb2 (by simp [go_sem, a2])
    have a32 : w2.cell? ⟨w.heap.size + 1, 3, none⟩ = some (.int .u64 (loW mx)) := cell_later hb2 (by simp [go_sem, a3])
    have fa22 : w2.frozen? ⟨w.heap.size + 1, 2, none⟩ = false := frozen_later hb2 (v := .int .u64 (hiW mx)) (by simp [go_sem, a2]) (by simp [go_sem, fa2])
    have fa32 : w2.frozen? ⟨w.heap.size + 1, 3, none⟩ = false := frozen_later hb2 (v := .int .u64 (loW mx)) (by simp [go_sem, a3]) (by simp [go_sem, fa3])
    have b22 : w2.cell? ⟨w.heap.size + 1 + 1, 2, none⟩ = some (.int .u64 (hiW mx)) := cell_later hb2 (by simp [go_sem, b2])
    have b32 : w2.cell? ⟨w.heap.size + 1 + 1, 3, none⟩ = some (.int .u64 (loW mx)) := cell_later hb2 (by simp [go_sem, b3])
    have hB2 : Below w.heap.size w w2 := ((hB1.setCell (by simp; omega) _).setCell (by simp; omega) _).trans (hb2.mono (by simp; exact hB1.size))
    clear hb2 hB1 hc2 s0 s1 a0 a1 a2 a3 fa2 fa3 b0 b2 b3 fb2 fb3
    go_wp2_with fail
    refine (had _).mono ?_
    rintro e w3 ⟨rfl, hb3⟩
    have s03 : w3.cell? ⟨w.heap.size, 0, none⟩ = some (.int .u8 E) := cell_later hb3 (by simp [go_sem, s02])
    have s13 : w3.cell? ⟨w.heap.size, 1, none⟩ = some (.int .u8 M) := cell_later hb3 (by simp [go_sem, s12])
    have a03 : w3.cell? ⟨w.heap.size + 1, 0, none⟩ = some (.bool nx) := cell_later hb3 (by simp [go_sem, a02])
    have a13 : w3.cell? ⟨w.heap.size + 1, 1, none⟩ = some (.int .i16 ex) := cell_later hb3 (by simp [go_sem, a12])
    have a23 : w3.cell? ⟨w.heap.size + 1, 2, none⟩ = some (.int .u64 (hiW mx)) := cell_later hb3 (by simp [go_sem, a22])
    have a33 : w3.cell? ⟨w.heap.size + 1, 3, none⟩ = some (.int .u64 (loW mx)) := cell_later hb3 (by simp [go_sem, a32])
    have fa23 : w3.frozen? ⟨w.heap.size + 1, 2, none⟩ = false := frozen_later hb3 (v := .int .u64 (hiW mx)) (by simp [go_sem, a22]) (by simp [go_sem, fa22])
    have fa33 : w3.frozen? ⟨w.heap.size + 1, 3, none⟩ = false := frozen_later hb3 (v := .int .u64 (loW mx)) (by simp [go_sem, a32]) (by simp [go_sem, fa32])
    have hB3 : Below w.heap.size w w3 := hB2.trans (hb3.mono hB2.size)
    clear hb3 hB2 had s02 s12 a02 a12 a22 a32 fa22 fa32 b22 b32
    go_wp2_with fail
    refine (hfm _).mono ?_
    rintro e w4 ⟨rfl, hb4⟩
    have hB4 : Below w.heap.size w w4 := ((hB3.setCell (by simp) _).setCell (by simp) _).trans (hb4.mono (by simp; exact hB3.size))
    go_wp2
    go_ret2
    exact ⟨⟨0, rfl⟩, hB4⟩
  · have b4 : ((mode : Int) == 4) = false := by rw [beq_eq_false_iff_ne]; omega
    have ed4 : decide (mode = 4) = false := decide_eq_false hm4
    rw [ed4] at hfm ⊢
    have ez : hiW 0 = 0 := rfl
    have ez2 : loW 0 = 0 := rfl
    rw [ez, ez2] at had
    have eq0 : ((0 : Nat) : Int) = 0 := rfl
    rw [eq0] at had
    go_enter Oahg.func132, Oahg.ntmps132
    go_wp2_with fail
    refine (hcm _).mono ?_
    rintro e w0 ⟨rfl, hb0⟩
    have t0 : w0.cell? ⟨w.heap.size, 0, none⟩ = some (.int .u8 E) := cell_later hb0 (by simp [go_sem])
    have t1 : w0.cell? ⟨w.heap.size, 1, none⟩ = some (.int .u8 M) := cell_later hb0 (by simp [go_sem])
    have c0 : w0.cell? ⟨w.heap.size + 1, 0, none⟩ = some (.bool nx) := cell_later hb0 (by simp [go_sem])
    have fc0 : w0.frozen? ⟨w.heap.size + 1, 0, none⟩ = false := by rw [hb0.frozen (p := ⟨w.heap.size + 1, 0, none⟩) (by simp)]; simp [go_sem]
    have c1 : w0.cell? ⟨w.heap.size + 1, 1, none⟩ = some (.int .i16 ex) := cell_later hb0 (by simp [go_sem])
    have fc1 : w0.frozen? ⟨w.heap.size + 1, 1, none⟩ = false := by rw [hb0.frozen (p := ⟨w.heap.size + 1, 1, none⟩) (by simp)]; simp [go_sem]
    have c2 : w0.cell? ⟨w.heap.size + 1, 2, none⟩ = some (.int .u64 (hiW mx)) := cell_later hb0 (by simp [go_sem])
    have fc2 : w0.frozen? ⟨w.heap.size + 1, 2, none⟩ = false := by rw [hb0.frozen (p := ⟨w.heap.size + 1, 2, none⟩) (by simp)]; simp [go_sem]
    have c3 : w0.cell? ⟨w.heap.size + 1, 3, none⟩ = some (.int .u64 (loW mx)) := cell_later hb0 (by simp [go_sem])
    have fc3 : w0.frozen? ⟨w.heap.size + 1, 3, none⟩ = false := by rw [hb0.frozen (p := ⟨w.heap.size + 1, 3, none⟩) (by simp)]; simp [go_sem]
    have d0 : w0.cell? ⟨w.heap.size + 1 + 1, 0, none⟩ = some (.bool ny) := cell_later hb0 (by simp [go_sem])
    have fd0 : w0.frozen? ⟨w.heap.size + 1 + 1, 0, none⟩ = false := by rw [hb0.frozen (p := ⟨w.heap.size + 1 + 1, 0, none⟩) (by simp)]; simp [go_sem]
    have d1 : w0.cell? ⟨w.heap.size + 1 + 1, 1, none⟩ = some (.int .i16 ex) := cell_later hb0 (by simp [go_sem])
    have fd1 : w0.frozen? ⟨w.heap.size + 1 + 1, 1, none⟩ = false := by rw [hb0.frozen (p := ⟨w.heap.size + 1 + 1, 1, none⟩) (by simp)]; simp [go_sem]
    have d2 : w0.cell? ⟨w.heap.size + 1 + 1, 2, none⟩ = some (.int .u64 (hiW my)) := cell_later hb0 (by simp [go_sem])
    have fd2 : w0.frozen? ⟨w.heap.size + 1 + 1, 2, none⟩ = false := by rw [hb0.frozen (p := ⟨w.heap.size + 1 + 1, 2, none⟩) (by simp)]; simp [go_sem]
    have d3 : w0.cell? ⟨w.heap.size + 1 + 1, 3, none⟩ = some (.int .u64 (loW my)) := cell_later hb0 (by simp [go_sem])
    have fd3 : w0.frozen? ⟨w.heap.size + 1 + 1, 3, none⟩ = false := by rw [hb0.frozen (p := ⟨w.heap.size + 1 + 1, 3, none⟩) (by simp)]; simp [go_sem]
    have hB0 : Below w.heap.size w w0 := ((((Below.refl _ _).alloc (Nat.le_refl _) _).alloc (by simp) _).alloc (by simp; omega) _).trans (hb0.mono (by simp; omega))
    clear hb0
    go_wp2_with fail
    refine (hsj _).mono ?_
    rintro e w1 ⟨rfl, hb1⟩
    have s0 : w1.cell? ⟨w.heap.size, 0, none⟩ = some (.int .u8 E) := cell_later hb1 (by simp [go_sem, t0])
    have s1 : w1.cell? ⟨w.heap.size, 1, none⟩ = some (.int .u8 M) := cell_later hb1 (by simp [go_sem, t1])
    have a0 : w1.cell? ⟨w.heap.size + 1, 0, none⟩ = some (.bool nx) := cell_later hb1 (by simp [go_sem, c0])
    have a1 : w1.cell? ⟨w.heap.size + 1, 1, none⟩ = some (.int .i16 ex) := cell_later hb1 (by simp [go_sem, c1])
    have a2 : w1.cell? ⟨w.heap.size + 1, 2, none⟩ = some (.int .u64 (hiW mx)) := cell_later hb1 (by simp [go_sem, c2])
    have fa2 : w1.frozen? ⟨w.heap.size + 1, 2, none⟩ = false := frozen_later hb1 (v := .int .u64 (hiW mx)) (by simp [go_sem, c2]) (by simp [go_sem, fc2])
    have a3 : w1.cell? ⟨w.heap.size + 1, 3, none⟩ = some (.int .u64 (loW mx)) := cell_later hb1 (by simp [go_sem, c3])
    have fa3 : w1.frozen? ⟨w.heap.size + 1, 3, none⟩ = false := frozen_later hb1 (v := .int .u64 (loW mx)) (by simp [go_sem, c3]) (by simp [go_sem, fc3])
    have b0 : w1.cell? ⟨w.heap.size + 1 + 1, 0, none⟩ = some (.bool ny) := cell_later hb1 (by simp [go_sem, d0])
    have b2 : w1.cell? ⟨w.heap.size + 1 + 1, 2, none⟩ = some (.int .u64 (hiW my)) := cell_later hb1 (by simp [go_sem, d2])
    have fb2 : w1.frozen? ⟨w.heap.size + 1 + 1, 2, none⟩ = false := frozen_later hb1 (v := .int .u64 (hiW my)) (by simp [go_sem, d2]) (by simp [go_sem, fd2])
    have b3 : w1.cell? ⟨w.heap.size + 1 + 1, 3, none⟩ = some (.int .u64 (loW my)) := cell_later hb1 (by simp [go_sem, d3])
    have fb3 : w1.frozen? ⟨w.heap.size + 1 + 1, 3, none⟩ = false := frozen_later hb1 (v := .int .u64 (loW my)) (by simp [go_sem, d3]) (by simp [go_sem, fd3])
    have hB1 : Below w.heap.size w w1 := hB0.trans (hb1.mono hB0.size)
    clear hb1 hcm t0 t1 c0 c1 c2 c3 d0 d1 d2 d3 fc0 fc1 fc2 fc3 fd0 fd1 fd2 fd3 hB0
    clear hsj
    go_wp2_with fail
    refine (hc2 _).mono ?_
    rintro e w2 ⟨rfl, hb2⟩
    have s02 : w2.cell? ⟨w.heap.size, 0, none⟩ = some (.int .u8 E) := cell_later hb2 (by simp [go_sem, s0])
    have s12 : w2.cell? ⟨w.heap.size, 1, none⟩ = some (.int .u8 M) := cell_later hb2 (by simp [go_sem, s1])
    have a02 : w2.cell? ⟨w.heap.size + 1, 0, none⟩ = some (.bool nx) := cell_later hb2 (by simp [go_sem, a0])
    have a12 : w2.cell? ⟨w.heap.size + 1, 1, none⟩ = some (.int .i16 ex) := cell_later hb2 (by simp [go_sem, a1])
    have a22 : w2.cell? ⟨w.heap.size + 1, 2, none⟩ = some (.int .u64 (hiW mx)) := cell_later hb2 (by simp [go_sem, a2])
    have a32 : w2.cell? ⟨w.heap.size + 1, 3, none⟩ = some (.int .u64 (loW mx)) := cell_later hb2 (by simp [go_sem, a3])
    have fa22 : w2.frozen? ⟨w.heap.size + 1, 2, none⟩ = false := frozen_later hb2 (v := .int .u64 (hiW mx)) (by simp [go_sem, a2]) (by simp [go_sem, fa2])
    have fa32 : w2.frozen? ⟨w.heap.size + 1, 3, none⟩ = false := frozen_later hb2 (v := .int .u64 (loW mx)) (by simp [go_sem, a3]) (by simp [go_sem, fa3])
    have b22 : w2.cell? ⟨w.heap.size + 1 + 1, 2, none⟩ = some (.int .u64 (hiW mx)) := cell_later hb2 (by simp [go_sem, b2])
    have b32 : w2.cell? ⟨w.heap.size + 1 + 1, 3, none⟩ = some (.int .u64 (loW mx)) := cell_later hb2 (by simp [go_sem, b3])
    have hB2 : Below w.heap.size w w2 := ((hB1.setCell (by simp; omega) _).setCell (by simp; omega) _).trans (hb2.mono (by simp; exact hB1.size))
    clear hb2 hB1 hc2 s0 s1 a0 a1 a2 a3 fa2 fa3 b0 b2 b3 fb2 fb3
    go_wp2_with fail
    refine (had _).mono ?_
    rintro e w3 ⟨rfl, hb3⟩
    have s03 : w3.cell? ⟨w.heap.size, 0, none⟩ = some (.int .u8 E) := cell_later hb3 (by simp [go_sem, s02])
    have s13 : w3.cell? ⟨w.heap.size, 1, none⟩ = some (.int .u8 M) := cell_later hb3 (by simp [go_sem, s12])
    have a03 : w3.cell? ⟨w.heap.size + 1, 0, none⟩ = some (.bool nx) := cell_later hb3 (by simp [go_sem, a02])
    have a13 : w3.cell? ⟨w.heap.size + 1, 1, none⟩ = some (.int .i16 ex) := cell_later hb3 (by simp [go_sem, a12])
    have a23 : w3.cell? ⟨w.heap.size + 1, 2, none⟩ = some (.int .u64 (hiW mx)) := cell_later hb3 (by simp [go_sem, a22])
    have a33 : w3.cell? ⟨w.heap.size + 1, 3, none⟩ = some (.int .u64 (loW mx)) := cell_later hb3 (by simp [go_sem, a32])
    have fa23 : w3.frozen? ⟨w.heap.size + 1, 2, none⟩ = false := frozen_later hb3 (v := .int .u64 (hiW mx)) (by simp [go_sem, a22]) (by simp [go_sem, fa22])
    have fa33 : w3.frozen? ⟨w.heap.size + 1, 3, none⟩ = false := frozen_later hb3 (v := .int .u64 (loW mx)) (by simp [go_sem, a32]) (by simp [go_sem, fa32])
    have hB3 : Below w.heap.size w w3 := hB2.trans (hb3.mono hB2.size)
    clear hb3 hB2 had s02 s12 a02 a12 a22 a32 fa22 fa32 b22 b32
    go_wp2_with fail
    refine (hfm _).mono ?_
    rintro e w4 ⟨rfl, hb4⟩
    have hB4 : Below w.heap.size w w4 := ((hB3.setCell (by simp) _).setCell (by simp) _).trans (hb4.mono (by simp; exact hB3.size))
    go_wp2
    go_ret2
    exact ⟨⟨0, rfl⟩, hB4⟩

end Go.Proofs.Ygcoah
