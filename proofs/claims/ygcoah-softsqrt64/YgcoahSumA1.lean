/-
  THE WALKS OF PACKAGE soft, sum: the case A1.
-/
import Derived.Test.YgcoahSoft6
namespace Go.Proofs.Ygcoah
open Go.RowKit

set_option maxRecDepth 100000 in
set_option maxHeartbeats 1600000 in
theorem sum_A1_eq (E M mode mx my g : Nat) (nx : Bool) (ex ey : Int) (w : World) (h : FOk E M) (hx : mx < 170141183460469231731687303715884105728) (hy : my < 170141183460469231731687303715884105728) (hx0 : 0 < mx) (hx1 : -2000 ≤ ex) (hx2 : ex ≤ 2000) (hc : 0 < g) (hd : ex - ey = (g : Int)) (hg : g ≤ 255)  :
    Calls Oahg.prog 132 #[.agg #[.int .u8 E, .int .u8 M], .int .u8 mode, .agg #[.bool nx, .int .i16 ey, .int .u64 (hiW my), .int .u64 (loW my)], .agg #[.bool nx, .int .i16 ex, .int .u64 (hiW mx), .int .u64 (loW mx)]] w fun r w' => (∃ fl : Int, r = .returned (.tuple #[.int .u64 (softR E M mode nx (ex - 64 + (bl (mx + shrJ my g) : Int)) (jamP (mx + shrJ my g))), .int .u8 fl])) ∧ Below w.heap.size w w' := by
  have hsj := fun w' => shrJam_any my g w' (by omega) (by omega)
  have hle : shrJ my g ≤ my := shrJ_le my _
  have hy0 : shrJ my g < 170141183460469231731687303715884105728 := by omega
  generalize shrJ my g = z at *
  have hq1 : decide (ey < ex) = true := by rw [decide_eq_true_eq]; omega
  obtain ⟨T, eT⟩ : ∃ T, T = mx + z := ⟨_, rfl⟩
  have had := fun w' => wadd_any mx z w' (by omega)
  rw [← eT] at had ⊢
  have hT0 : 0 < T := by omega
  have hT1 : T < 340282366920938463463374607431768211456 := by omega
  have hbT : bl T ≤ 128 := (bl_le_iff _ _).2 hT1
  have hjm := fun w' => jam_any T ex w' hT0 hT1 (by omega) (by omega)
  have hjp : 0 < jamP T ∧ jamP T < 18446744073709551616 := jamP_pos T hT0 hT1
  have hrp := fun w' => roundPack_any E M mode nx (ex - 64 + (bl T : Int)) (jamP T) w' h hjp.1 hjp.2 (by omega) (by omega)
  have hne : bits .or .u64 (hiW T : Int) (loW T : Int) ≠ 0 := or_words_ne T hT0 hT1
  have hnb : (bits .or .u64 (hiW T : Int) (loW T : Int) == 0) = false := by rw [beq_eq_false_iff_ne]; exact hne
  generalize softR E M mode nx (ex - 64 + (bl T : Int)) (jamP T) = V at *
  generalize ex - 64 + (bl T : Int) = eT2 at *
  generalize jamP T = J at *
  have HT : Hid (0 < T) := hT0
  clear hne hjp hbT hT0 hT1 eT
  clear hle
  go_enter Oahg.func132, Oahg.ntmps132
  go_wp2_with fail
  refine (hsj _).mono ?_
  rintro e w1 ⟨rfl, hb1⟩
  have s0 : w1.cell? ⟨w.heap.size, 0, none⟩ = some (.int .u8 E) := cell_later hb1 (by simp [go_sem])
  have s1 : w1.cell? ⟨w.heap.size, 1, none⟩ = some (.int .u8 M) := cell_later hb1 (by simp [go_sem])
  have a0 : w1.cell? ⟨w.heap.size + 1, 0, none⟩ = some (.bool nx) := cell_later hb1 (by simp [go_sem])
  have a1 : w1.cell? ⟨w.heap.size + 1, 1, none⟩ = some (.int .i16 ex) := cell_later hb1 (by simp [go_sem])
  have a2 : w1.cell? ⟨w.heap.size + 1, 2, none⟩ = some (.int .u64 (hiW mx)) := cell_later hb1 (by simp [go_sem])
  have fa2 : w1.frozen? ⟨w.heap.size + 1, 2, none⟩ = false := frozen_later hb1 (v := .int .u64 (hiW mx)) (by simp [go_sem]) (by simp [go_sem])
  have a3 : w1.cell? ⟨w.heap.size + 1, 3, none⟩ = some (.int .u64 (loW mx)) := cell_later hb1 (by simp [go_sem])
  have fa3 : w1.frozen? ⟨w.heap.size + 1, 3, none⟩ = false := frozen_later hb1 (v := .int .u64 (loW mx)) (by simp [go_sem]) (by simp [go_sem])
  have b0 : w1.cell? ⟨w.heap.size + 1 + 1, 0, none⟩ = some (.bool nx) := cell_later hb1 (by simp [go_sem])
  have b2 : w1.cell? ⟨w.heap.size + 1 + 1, 2, none⟩ = some (.int .u64 (hiW my)) := cell_later hb1 (by simp [go_sem])
  have fb2 : w1.frozen? ⟨w.heap.size + 1 + 1, 2, none⟩ = false := frozen_later hb1 (v := .int .u64 (hiW my)) (by simp [go_sem]) (by simp [go_sem])
  have b3 : w1.cell? ⟨w.heap.size + 1 + 1, 3, none⟩ = some (.int .u64 (loW my)) := cell_later hb1 (by simp [go_sem])
  have fb3 : w1.frozen? ⟨w.heap.size + 1 + 1, 3, none⟩ = false := frozen_later hb1 (v := .int .u64 (loW my)) (by simp [go_sem]) (by simp [go_sem])
  have hB1 : Below w.heap.size w w1 := ((((Below.refl _ _).alloc (Nat.le_refl _) _).alloc (by simp) _).alloc (by simp; omega) _).trans (hb1.mono (by simp; omega))
  clear hb1
  clear hsj
  go_wp2_with fail
  refine (had _).mono ?_
  rintro e w3 ⟨rfl, hb3⟩
  have s03 : w3.cell? ⟨w.heap.size, 0, none⟩ = some (.int .u8 E) := cell_later hb3 (by simp [go_sem, s0])
  have s13 : w3.cell? ⟨w.heap.size, 1, none⟩ = some (.int .u8 M) := cell_later hb3 (by simp [go_sem, s1])
  have a03 : w3.cell? ⟨w.heap.size + 1, 0, none⟩ = some (.bool nx) := cell_later hb3 (by simp [go_sem, a0])
  have a13 : w3.cell? ⟨w.heap.size + 1, 1, none⟩ = some (.int .i16 ex) := cell_later hb3 (by simp [go_sem, a1])
  have a23 : w3.cell? ⟨w.heap.size + 1, 2, none⟩ = some (.int .u64 (hiW mx)) := cell_later hb3 (by simp [go_sem, a2])
  have a33 : w3.cell? ⟨w.heap.size + 1, 3, none⟩ = some (.int .u64 (loW mx)) := cell_later hb3 (by simp [go_sem, a3])
  have fa23 : w3.frozen? ⟨w.heap.size + 1, 2, none⟩ = false := frozen_later hb3 (v := .int .u64 (hiW mx)) (by simp [go_sem, a2]) (by simp [go_sem, fa2])
  have fa33 : w3.frozen? ⟨w.heap.size + 1, 3, none⟩ = false := frozen_later hb3 (v := .int .u64 (loW mx)) (by simp [go_sem, a3]) (by simp [go_sem, fa3])
  have hB3 : Below w.heap.size w w3 := ((hB1.setCell (by simp; omega) _).setCell (by simp; omega) _).trans (hb3.mono (by simp; exact hB1.size))
  clear hb3 hB1 had s0 s1 a0 a1 a2 a3 fa2 fa3 b0 b2 b3 fb2 fb3
  go_wp2_with fail
  refine (hjm _).mono ?_
  rintro e w4 ⟨rfl, hb4⟩
  have s04 : w4.cell? ⟨w.heap.size, 0, none⟩ = some (.int .u8 E) := cell_later hb4 (by simp [go_sem, s03])
  have s14 : w4.cell? ⟨w.heap.size, 1, none⟩ = some (.int .u8 M) := cell_later hb4 (by simp [go_sem, s13])
  have a04 : w4.cell? ⟨w.heap.size + 1, 0, none⟩ = some (.bool nx) := cell_later hb4 (by simp [go_sem, a03])
  have hB4 : Below w.heap.size w w4 := ((hB3.setCell (by simp) _).setCell (by simp) _).trans (hb4.mono (by simp; exact hB3.size))
  clear hb4 hB3 hjm s03 s13 a03 a13 a23 a33 fa23 fa33
  go_wp2_with fail
  refine (hrp _).mono ?_
  rintro e w5 ⟨⟨fl, rfl⟩, hb5⟩
  go_wp2
  go_ret2
  exact ⟨⟨fl, rfl⟩, hB4.trans (hb5.mono hB4.size)⟩

set_option maxRecDepth 100000 in
set_option maxHeartbeats 1600000 in
theorem sum_A1_ne (E M mode mx my g : Nat) (nx ny : Bool) (ex ey : Int) (w : World) (h : FOk E M) (hx : mx < 170141183460469231731687303715884105728) (hy : my < 170141183460469231731687303715884105728) (hx0 : 0 < mx) (hx1 : -2000 ≤ ex) (hx2 : ex ≤ 2000) (hc : 0 < g) (hd : ex - ey = (g : Int)) (hg : g ≤ 255) (hsg : nx ≠ ny) (hT : shrJ my g < mx) :
    Calls Oahg.prog 132 #[.agg #[.int .u8 E, .int .u8 M], .int .u8 mode, .agg #[.bool ny, .int .i16 ey, .int .u64 (hiW my), .int .u64 (loW my)], .agg #[.bool nx, .int .i16 ex, .int .u64 (hiW mx), .int .u64 (loW mx)]] w fun r w' => (∃ fl : Int, r = .returned (.tuple #[.int .u64 (softR E M mode nx (ex - 64 + (bl (mx - shrJ my g) : Int)) (jamP (mx - shrJ my g))), .int .u8 fl])) ∧ Below w.heap.size w w' := by
  have hsj := fun w' => shrJam_any my g w' (by omega) (by omega)
  have hle : shrJ my g ≤ my := shrJ_le my _
  have hy0 : shrJ my g < 170141183460469231731687303715884105728 := by omega
  generalize shrJ my g = z at *
  have hq1 : decide (ey < ex) = true := by rw [decide_eq_true_eq]; omega
  obtain ⟨T, eT⟩ : ∃ T, T = mx - z := ⟨_, rfl⟩
  have had := fun w' => wsub_any mx z w' (by omega) (by omega)
  rw [← eT] at had ⊢
  have hc2 := fun w' => wcmp_any mx z w'
  have hcc2 : cmpI mx z = 1 := by unfold cmpI; rw [if_neg (by omega), if_neg (by omega)]
  rw [hcc2] at hc2
  have hT0 : 0 < T := by omega
  have hT1 : T < 340282366920938463463374607431768211456 := by omega
  have hbT : bl T ≤ 128 := (bl_le_iff _ _).2 hT1
  have hjm := fun w' => jam_any T ex w' hT0 hT1 (by omega) (by omega)
  have hjp : 0 < jamP T ∧ jamP T < 18446744073709551616 := jamP_pos T hT0 hT1
  have hrp := fun w' => roundPack_any E M mode nx (ex - 64 + (bl T : Int)) (jamP T) w' h hjp.1 hjp.2 (by omega) (by omega)
  have hne : bits .or .u64 (hiW T : Int) (loW T : Int) ≠ 0 := or_words_ne T hT0 hT1
  have hnb : (bits .or .u64 (hiW T : Int) (loW T : Int) == 0) = false := by rw [beq_eq_false_iff_ne]; exact hne
  generalize softR E M mode nx (ex - 64 + (bl T : Int)) (jamP T) = V at *
  generalize ex - 64 + (bl T : Int) = eT2 at *
  generalize jamP T = J at *
  have HT : Hid (0 < T) := hT0
  clear hne hjp hbT hT0 hT1 eT
  clear hle
  have bsg : (nx == ny) = false := by simpa using hsg
  go_enter Oahg.func132, Oahg.ntmps132
  go_wp2_with fail
  refine (hsj _).mono ?_
  rintro e w1 ⟨rfl, hb1⟩
  have s0 : w1.cell? ⟨w.heap.size, 0, none⟩ = some (.int .u8 E) := cell_later hb1 (by simp [go_sem])
  have s1 : w1.cell? ⟨w.heap.size, 1, none⟩ = some (.int .u8 M) := cell_later hb1 (by simp [go_sem])
  have a0 : w1.cell? ⟨w.heap.size + 1, 0, none⟩ = some (.bool nx) := cell_later hb1 (by simp [go_sem])
  have a1 : w1.cell? ⟨w.heap.size + 1, 1, none⟩ = some (.int .i16 ex) := cell_later hb1 (by simp [go_sem])
  have a2 : w1.cell? ⟨w.heap.size + 1, 2, none⟩ = some (.int .u64 (hiW mx)) := cell_later hb1 (by simp [go_sem])
  have fa2 : w1.frozen? ⟨w.heap.size + 1, 2, none⟩ = false := frozen_later hb1 (v := .int .u64 (hiW mx)) (by simp [go_sem]) (by simp [go_sem])
  have a3 : w1.cell? ⟨w.heap.size + 1, 3, none⟩ = some (.int .u64 (loW mx)) := cell_later hb1 (by simp [go_sem])
  have fa3 : w1.frozen? ⟨w.heap.size + 1, 3, none⟩ = false := frozen_later hb1 (v := .int .u64 (loW mx)) (by simp [go_sem]) (by simp [go_sem])
  have b0 : w1.cell? ⟨w.heap.size + 1 + 1, 0, none⟩ = some (.bool ny) := cell_later hb1 (by simp [go_sem])
  have b2 : w1.cell? ⟨w.heap.size + 1 + 1, 2, none⟩ = some (.int .u64 (hiW my)) := cell_later hb1 (by simp [go_sem])
  have fb2 : w1.frozen? ⟨w.heap.size + 1 + 1, 2, none⟩ = false := frozen_later hb1 (v := .int .u64 (hiW my)) (by simp [go_sem]) (by simp [go_sem])
  have b3 : w1.cell? ⟨w.heap.size + 1 + 1, 3, none⟩ = some (.int .u64 (loW my)) := cell_later hb1 (by simp [go_sem])
  have fb3 : w1.frozen? ⟨w.heap.size + 1 + 1, 3, none⟩ = false := frozen_later hb1 (v := .int .u64 (loW my)) (by simp [go_sem]) (by simp [go_sem])
  have hB1 : Below w.heap.size w w1 := ((((Below.refl _ _).alloc (Nat.le_refl _) _).alloc (by simp) _).alloc (by simp; omega) _).trans (hb1.mono (by simp; omega))
  clear hb1
  clear hsj
  go_wp2_with fail
  refine (hc2 _).mono ?_
  rintro e w2 ⟨rfl, hb2⟩
  have s02 : w2.cell? ⟨w.heap.size, 0, none⟩ = some (.int .u8 E) := cell_later hb2 (by simp [go_sem, s0])
  have s12 : w2.cell? ⟨w.heap.size, 1, none⟩ = some (.int .u8 M) := cell_later hb2 (by simp [go_sem, s1])
  have a02 : w2.cell? ⟨w.heap.size + 1, 0, none⟩ = some (.bool nx) := cell_later hb2 (by simp [go_sem, a0])
  have a12 : w2.cell? ⟨w.heap.size + 1, 1, none⟩ = some (.int .i16 ex) := cell_later hb2 (by simp [go_sem, a1])
  have a22 : w2.cell? ⟨w.heap.size + 1, 2, none⟩ = some (.int .u64 (hiW mx)) := cell_later hb2 (by simp [go_sem, a2])
  have a32 : w2.cell? ⟨w.heap.size + 1, 3, none⟩ = some (.int .u64 (loW mx)) := cell_later hb2 (by simp [go_sem, a3])
  have fa22 : w2.frozen? ⟨w.heap.size + 1, 2, none⟩ = false := frozen_later hb2 (v := .int .u64 (hiW mx)) (by simp [go_sem, a2]) (by simp [go_sem, fa2])
  have fa32 : w2.frozen? ⟨w.heap.size + 1, 3, none⟩ = false := frozen_later hb2 (v := .int .u64 (loW mx)) (by simp [go_sem, a3]) (by simp [go_sem, fa3])
  have b22 : w2.cell? ⟨w.heap.size + 1 + 1, 2, none⟩ = some (.int .u64 (hiW z)) := cell_later hb2 (by simp [go_sem, b2])
  have b32 : w2.cell? ⟨w.heap.size + 1 + 1, 3, none⟩ = some (.int .u64 (loW z)) := cell_later hb2 (by simp [go_sem, b3])
  have hB2 : Below w.heap.size w w2 := ((hB1.setCell (by simp; omega) _).setCell (by simp; omega) _).trans (hb2.mono (by simp; exact hB1.size))
  clear hb2 hB1 hc2 s0 s1 a0 a1 a2 a3 fa2 fa3 b0 b2 b3 fb2 fb3
  go_wp2_with fail
  refine (had _).mono ?_
  rintro e w3 ⟨rfl, hb3⟩
  have s03 : w3.cell? ⟨w.heap.size, 0, none⟩ = some (.int .u8 E) := cell_later hb3 (by simp [go_sem, s02])
  have s13 : w3.cell? ⟨w.heap.size, 1, none⟩ = some (.int .u8 M) := cell_later hb3 (by simp [go_sem, s12])
  have a03 : w3.cell? ⟨w.heap.size + 1, 0, none⟩ = some (.bool nx) := cell_later hb3 (by simp [go_sem, a02])
  have a13 : w3.cell? ⟨w.heap.size + 1, 1, none⟩ = some (.int .i16 ex) := cell_later hb3 (by simp [go_sem, a12])
  have a23 : w3.cell? ⟨w.heap.size + 1, 2, none⟩ = some (.int .u64 (hiW mx)) := cell_later hb3 (by simp [go_sem, a22])
  have a33 : w3.cell? ⟨w.heap.size + 1, 3, none⟩ = some (.int .u64 (loW mx)) := cell_later hb3 (by simp [go_sem, a32])
  have fa23 : w3.frozen? ⟨w.heap.size + 1, 2, none⟩ = false := frozen_later hb3 (v := .int .u64 (hiW mx)) (by simp [go_sem, a22]) (by simp [go_sem, fa22])
  have fa33 : w3.frozen? ⟨w.heap.size + 1, 3, none⟩ = false := frozen_later hb3 (v := .int .u64 (loW mx)) (by simp [go_sem, a32]) (by simp [go_sem, fa32])
  have hB3 : Below w.heap.size w w3 := hB2.trans (hb3.mono hB2.size)
  clear hb3 hB2 had s02 s12 a02 a12 a22 a32 fa22 fa32 b22 b32
  go_wp2_with fail
  refine (hjm _).mono ?_
  rintro e w4 ⟨rfl, hb4⟩
  have s04 : w4.cell? ⟨w.heap.size, 0, none⟩ = some (.int .u8 E) := cell_later hb4 (by simp [go_sem, s03])
  have s14 : w4.cell? ⟨w.heap.size, 1, none⟩ = some (.int .u8 M) := cell_later hb4 (by simp [go_sem, s13])
  have a04 : w4.cell? ⟨w.heap.size + 1, 0, none⟩ = some (.bool nx) := cell_later hb4 (by simp [go_sem, a03])
  have hB4 : Below w.heap.size w w4 := ((hB3.setCell (by simp) _).setCell (by simp) _).trans (hb4.mono (by simp; exact hB3.size))
  clear hb4 hB3 hjm s03 s13 a03 a13 a23 a33 fa23 fa33
  go_wp2_with fail
  refine (hrp _).mono ?_
  rintro e w5 ⟨⟨fl, rfl⟩, hb5⟩
  go_wp2
  go_ret2
  exact ⟨⟨fl, rfl⟩, hB4.trans (hb5.mono hB4.size)⟩

end Go.Proofs.Ygcoah
