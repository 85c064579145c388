/-
  THE WALKS OF PACKAGE exact, 6: pack.
-/
import Derived.Test.YgcoahEx1
import Derived.Test.YgcoahExt
import Derived.Test.YgcoahSoft3a
namespace Go.Proofs.Ygcoah
open Go.RowKit

theorem or_sgn {E M : Nat} (h : FOk E M) (neg : Bool) (x : Nat) (hx : x < infP E M) : bits .or .u64 (x : Int) (sgnP E M neg : Int) = ((x + sgnP E M neg : Nat) : Int) := by
  have h1 := infP_lt E M
  have h2 := h.pow
  have h3 := or_sign E M x neg (by omega)
  cases neg
  · have e : sgnP E M false = 0 := rfl
    rw [e, u64_or_nat x 0 (by omega) (by decide), Nat.or_zero]
    rfl
  · have e : sgnP E M true = 2 ^ (E + M) := rfl
    rw [← h3, e, u64_or_nat x _ (by omega) (by omega)]
    rfl

theorem pack_room {E M n : Nat} {d : Nat} (h : FOk E M) (hd : d + 2 ≤ 2 * biasP E + 1) (hn : n ≤ 2 ^ (M + 1)) : d * 2 ^ M + n < 18446744073709551616 ∧ d * 2 ^ M < 18446744073709551616 ∧ d < 18446744073709551616 := by
  have h1 := h.powE1
  have h2 := h.pow
  have e1 : (2 : Nat) ^ E = 2 * 2 ^ (E - 1) := by rw [← Nat.pow_succ']; congr 1; have := h.1; omega
  unfold biasP at hd
  have h3 : (d + 2) * 2 ^ M ≤ 2 ^ E * 2 ^ M := Nat.mul_le_mul_right _ (by omega)
  rw [← Nat.pow_add, Nat.add_mul] at h3
  rw [Nat.pow_succ] at hn
  have hp := pow_pos2 M
  have h4 : d ≤ d * 2 ^ M := Nat.le_mul_of_pos_right _ hp
  omega

set_option maxRecDepth 100000 in
set_option maxHeartbeats 3200000 in
theorem pack_any (E M mode : Nat) (neg : Bool) (e : Int) (n : Nat) (c : Int) (s tiny : Bool) (w : World) (h : FOk E M) (he1 : eminI E ≤ e) (he2 : e ≤ (biasP E : Int)) (hn : n ≤ 2 ^ (M + 1)) :
    Calls Oahg.prog 66 #[.agg #[.int .u8 E, .int .u8 M], .int .u8 mode, .bool neg, .int .i64 e, .int .u64 n, .agg #[.int .i8 c, .bool s], .bool tiny] w fun r w' =>
      (∃ fl : Int, r = .returned (.tuple #[.int .u64 (packP E M mode neg e n), .int .u8 fl])) ∧ Below w.heap.size w w' := by
  obtain ⟨i1, i2, i3, i4⟩ := h.ints
  have hbi := biasP_bd h
  have hem := fun w' => emin_any E M w' h
  have hinf := fun w' => inf_any E M false w' h
  have hov := fun w' => eoverflow_any E M mode neg w' h
  have hze := fun w' => ezero_any E M neg w' h
  have e0 : infS E M false = infP E M := rfl
  rw [e0] at hinf
  obtain ⟨d, hd⟩ : ∃ d : Nat, e - eminI E = (d : Int) := ⟨(e - eminI E).toNat, by omega⟩
  have hd2 : d + 2 ≤ 2 * biasP E + 1 := by unfold eminI at hd; omega
  obtain ⟨p1, p2, p3⟩ := pack_room h hd2 hn
  have w1 : IntKind.i64.wrap (e - eminI E) = (d : Int) := by rw [hd]; exact IntWalk.i64_in _ (by unfold eminI at hd; omega)
  have w2 : IntKind.u64.wrap (d : Int) = (d : Int) := wrapN _ p3
  have w3 : IntKind.u64.wrap ((d : Int) * 2 ^ M) = ((d * 2 ^ M : Nat) : Int) := by rw [cast_mul_pow]; exact wrapN _ p2
  have w4 : IntKind.u64.wrap (((d * 2 ^ M : Nat) : Int) + (n : Int)) = ((d * 2 ^ M + n : Nat) : Int) := by rw [← Int.natCast_add]; exact wrapN _ p1
  have hmin : min M 64 = M := by omega
  obtain ⟨V, hV⟩ : ∃ V, V = packP E M mode neg e n := ⟨_, rfl⟩
  rw [← hV]
  unfold packP at hV
  rw [hd, Int.toNat_natCast] at hV
  have hor := or_sgn h neg (d * 2 ^ M + n)
  generalize d * 2 ^ M = D at *
  generalize hXX : D + n = X at *
  clear hXX he1 he2 hn hd2 p1 p2 p3 hd
  generalize eminI E = em at *
  go_enter Oahg.func66, Oahg.ntmps66
  go_wp2
  obtain ⟨W, eW⟩ : ∃ W, W = (w.alloc (.cells #[.int .u8 E, .int .u8 M] 23)).alloc (.cells #[.int .i8 c, .bool s] 83) := ⟨_, rfl⟩
  have hB : Below w.heap.size w W := by rw [eW]; exact ((Below.refl _ _).alloc (Nat.le_refl _) _).alloc (by simp) _
  have c0 : W.cell? ⟨w.heap.size, 0, none⟩ = some (.int .u8 E) := by rw [eW]; simp [go_sem]
  have c1 : W.cell? ⟨w.heap.size, 1, none⟩ = some (.int .u8 M) := by rw [eW]; simp [go_sem]
  have c3 : W.cell? ⟨w.heap.size + 1, 1, none⟩ = some (.bool s) := by rw [eW]; simp [go_sem]
  rw [← eW]
  clear eW
  have d0 : ∀ x : Ext W, x.w.cell? ⟨w.heap.size, 0, none⟩ = some (.int .u8 E) := fun x => x.cell c0
  have d1 : ∀ x : Ext W, x.w.cell? ⟨w.heap.size, 1, none⟩ = some (.int .u8 M) := fun x => x.cell c1
  have hX : Nonempty (Ext W) := Ext.some _
  refine wp_region_ext (by kernel_rfl) (by kernel_rfl) ?_
  repeat (go_big_quiet_step ((go_at_call 62; exact Calls.ext_of (hem _))))
  refine wpQuiet_nil ?_
  rintro _ ⟨z, rfl⟩
  have hBx : Below w.heap.size w z.w := hB.trans (z.hb.mono hB.size)
  have c0 := z.cell c0
  have c1 := z.cell c1
  have c3 := z.cell c3
  generalize z.w = wx at *
  clear d0 d1 hX hem
  go_wp2_with fail
  refine (hinf _).mono ?_
  rintro e w1 ⟨rfl, hb⟩
  have hB1 := hBx.trans (hb.mono hBx.size)
  have c0 := cell_later hb c0
  have c1 := cell_later hb c1
  have c3 := cell_later hb c3
  by_cases cv : infP E M ≤ X
  · rw [if_pos cv] at hV
    have iv : (infP E M : Int) ≤ (X : Int) := by omega
    clear hor hze
    go_wp2_with fail
    refine (hov _).mono ?_
    rintro e w2 ⟨⟨fl, rfl⟩, hb2⟩
    have hB2 := hB1.trans (hb2.mono hB1.size)
    go_wp2
    go_ret2
    exact ⟨⟨fl, by rw [hV]; rfl⟩, hB2⟩
  · rw [if_neg cv] at hV
    have iv : decide ((infP E M : Int) ≤ (X : Int)) = false := decide_eq_false (by omega)
    have ho := hor (by omega)
    clear hor hov
    cases s
    · go_wp2_with fail
      refine (hze _).mono ?_
      rintro e w2 ⟨rfl, hb2⟩
      have hB2 := hB1.trans (hb2.mono hB1.size)
      go_wp2
      go_ret2
      exact ⟨⟨_, ret_two' (by rw [hV, Int.natCast_add]) rfl⟩, hB2⟩
    · cases tiny
      · go_wp2_with fail
        refine (hze _).mono ?_
        rintro e w2 ⟨rfl, hb2⟩
        have hB2 := hB1.trans (hb2.mono hB1.size)
        go_wp2
        go_ret2
        exact ⟨⟨_, ret_two' (by rw [hV, Int.natCast_add]) rfl⟩, hB2⟩
      · go_wp2_with fail
        refine (hze _).mono ?_
        rintro e w2 ⟨rfl, hb2⟩
        have hB2 := hB1.trans (hb2.mono hB1.size)
        go_wp2
        go_ret2
        exact ⟨⟨_, ret_two' (by rw [hV, Int.natCast_add]) rfl⟩, hB2⟩

end Go.Proofs.Ygcoah
