/-
  THE WALKS OF PACKAGE nat, 5: Mul.
-/
import Derived.Test.YgcoahNat4
namespace Go.Proofs.Ygcoah
open Go.RowKit

theorem pow_shift (x k j : Nat) : x * 4294967296 ^ (k + j + 1) = x * 4294967296 * 4294967296 ^ (k + j) := by
  rw [Nat.pow_succ, Nat.mul_assoc, Nat.mul_comm (4294967296 ^ (k + j))]

theorem mul_step {c g : Nat → Nat} {N k j y a A s : Nat} (h : val c N + y * 4294967296 ^ (k + j) = A + a * val g j * 4294967296 ^ k) (hs : s = y + (a * g j + c (k + j))) (hk : k + j < N) :
    val (fun i => if i = k + j then s % 4294967296 else c i) N + s / 4294967296 * 4294967296 ^ (k + (j + 1)) = A + a * val g (j + 1) * 4294967296 ^ k := by
  have h1 := val_set c N (k + j) (s % 4294967296) hk
  have h5 : val g (j + 1) = val g j + g j * 4294967296 ^ j := rfl
  have h6 : a * val g (j + 1) * 4294967296 ^ k = a * val g j * 4294967296 ^ k + a * g j * 4294967296 ^ (k + j) := by
    rw [h5, Nat.mul_add, Nat.add_mul, Nat.pow_add, ← Nat.mul_assoc a, Nat.mul_assoc (a * g j), Nat.mul_comm (4294967296 ^ j)]
  have h7 : s / 4294967296 * 4294967296 * 4294967296 ^ (k + j) + s % 4294967296 * 4294967296 ^ (k + j) = s * 4294967296 ^ (k + j) := by
    rw [← Nat.add_mul]; congr 1; omega
  have h8 : s * 4294967296 ^ (k + j) = y * 4294967296 ^ (k + j) + a * g j * 4294967296 ^ (k + j) + c (k + j) * 4294967296 ^ (k + j) := by
    rw [hs, Nat.add_mul, Nat.add_mul]; omega
  rw [← Nat.add_assoc, pow_shift, h6]
  omega

theorem mul_end {c f g : Nat → Nat} {N k m y : Nat} (h : val c N + y * 4294967296 ^ (k + m) = val f k * val g m + f k * val g m * 4294967296 ^ k) (hk : k + m < N) (hc : c (k + m) = 0) :
    val (fun i => if i = k + m then y else c i) N = val f (k + 1) * val g m := by
  have h1 := val_set c N (k + m) y hk
  have h5 : val f (k + 1) = val f k + f k * 4294967296 ^ k := rfl
  have h6 : val f (k + 1) * val g m = val f k * val g m + f k * val g m * 4294967296 ^ k := by
    rw [h5, Nat.add_mul, Nat.mul_assoc (f k), Nat.mul_comm (4294967296 ^ k), ← Nat.mul_assoc]
  rw [hc] at h1
  omega

theorem mul_zero {c : Nat → Nat} {L k x p : Nat} (h : ∀ i, k ≤ i → i < L → c i = 0) (hp : p < k) : ∀ i, k ≤ i → i < L → (fun j => if j = p then x else c j) i = 0 := by
  intro i h1 h2
  show (if i = p then x else c i) = 0
  rw [if_neg (by omega)]
  exact h i h1 h2

theorem prod_le (a b : Nat) (ha : a < 4294967296) (hb : b < 4294967296) : a * b ≤ 18446744065119617025 := by
  have := Nat.mul_le_mul (show a ≤ 4294967295 by omega) (show b ≤ 4294967295 by omega)
  omega

set_option maxHeartbeats 800000 in
theorem mul_any (ao ao2 : Option Addr) (n cap m cap2 : Nat) (f g : Nat → Nat) (w : World) (h : Lm w ao n cap f) (h2 : Lm w ao2 m cap2 g) (hn : n ≤ 100000000) (hm : m ≤ 100000000) :
    Calls Oahg.prog 40 #[.slice ao n cap, .slice ao2 m cap2] w fun e w' => (∃ v, e = .returned v ∧ NatV w' v (val f n * val g m)) ∧ Below w.heap.size w w' := by
  go_enter Oahg.func40, Oahg.ntmps40
  go_wp2_with fail
  refine (trim_any ao n cap f _ h).mono ?_
  rintro e w1 ⟨⟨ao', n', cap', rfl, hT⟩, rfl⟩
  go_wp2_with fail
  refine (trim_any ao2 m cap2 g _ h2).mono ?_
  rintro e w1 ⟨⟨bo', m', cbp', rfl, hT2⟩, rfl⟩
  obtain ⟨hl, hz, htop, hle, hv⟩ := hT
  obtain ⟨hl2, hz2, htop2, hle2, hv2⟩ := hT2
  have hcap := hl.top
  have hfit := hl.fits
  have hcap2 := hl2.top
  have hfit2 := hl2.fits
  have HE : Hid (val f n' * val g m' = val f n * val g m) := by unfold Hid; rw [hv, hv2]
  clear hv hv2 h h2 htop htop2 hz hz2
  have hmk := make54 (n' + m') (by omega)
  rw [show ((n' + m' : Nat) : Int) = (n' : Int) + (m' : Int) from by omega] at hmk
  go_wp2
  go_loopw [21] (fun t wr => ∃ k : Nat, ∃ c : Nat → Nat, k ≤ n' ∧ t = .int .i64 k ∧ Row wr w1.heap.size (n' + m') c ∧ Hid (∀ i, i < n' + m' → c i < 4294967296) ∧ Hid (∀ i, k + m' ≤ i → i < n' + m' → c i = 0) ∧ Hid (val c (n' + m') = val f k * val g m') ∧ Below w1.heap.size w1 wr) (fun t _ => n' - (intOf t).toNat)
  case atStart => exact ⟨0, fun _ => 0, by omega, rfl, Row.made w1 (n' + m'), by unfold Hid; intro i _; show 0 < 4294967296; omega, by unfold Hid; intros; rfl, by unfold Hid; rw [val_zeros _ 0 _ (by omega) (fun _ _ _ => rfl)]; simp [val], (Below.refl _ _).alloc (Nat.le_refl _) _⟩
  case round =>
    obtain ⟨k, c, hk, rfl, hr, HL, HZ, HV, hb⟩ := hrel
    by_cases hkn : k < n'
    · obtain ⟨b, off, rfl, hlt, hc⟩ := hl.at (by omega)
      have c1 : w1.cell? ⟨b, off + k, none⟩ = some (.int .u32 (f k)) := hc k hkn
      have f1 : f k < 4294967296 := hl.lim k hkn
      have i1 : (0 : Int) ≤ (k : Int) := by omega
      have i2 : (k : Int) < (n' : Int) := by omega
      clear hc hmk
      go_wp2
      go_loopw [7, 26] (fun cy t wr => ∃ j y : Nat, ∃ c : Nat → Nat, j ≤ m' ∧ t = .int .i64 j ∧ cy = .int .u64 y ∧ y < 4294967296 ∧ Row wr w1.heap.size (n' + m') c ∧ Hid (∀ i, i < n' + m' → c i < 4294967296) ∧ Hid (∀ i, k + m' ≤ i → i < n' + m' → c i = 0) ∧ Hid (val c (n' + m') + y * 4294967296 ^ (k + j) = val f k * val g m' + f k * val g j * 4294967296 ^ k) ∧ Below w1.heap.size w1 wr) (fun _ t _ => m' - (intOf t).toNat)
      case atStart => exact ⟨0, 0, c, by omega, rfl, rfl, by omega, hr, HL, HZ, by unfold Hid; rw [HV.out]; simp [val], hb⟩
      case round =>
        clear hr HL HZ HV hb
        obtain ⟨j, y, c, hj, rfl, rfl, hy, hr, HL, HZ, HV, hb⟩ := hrel
        by_cases hjm : j < m'
        · obtain ⟨b2, off2, rfl, hlt2, hc2⟩ := hl2.at (by omega)
          have d1 : wr.cell? ⟨b, off + k, none⟩ = some (.int .u32 (f k)) := (hb.cell (p := ⟨b, off + k, none⟩) hlt).trans c1
          have d2 : wr.cell? ⟨b2, off2 + j, none⟩ = some (.int .u32 (g j)) := (hb.cell (p := ⟨b2, off2 + j, none⟩) hlt2).trans (hc2 j hjm)
          have d3 : wr.cell? ⟨w1.heap.size, k + j, none⟩ = some (.int .u32 (c (k + j))) := hr.cell (by omega)
          have f2 := hr.frozen (k + j)
          have f3 : g j < 4294967296 := hl2.lim j hjm
          have f4 : c (k + j) < 4294967296 := HL.out _ (by omega)
          have f5 : (f k : Int) * (g j : Int) ≤ 18446744065119617025 := by have := prod_le _ _ f1 f3; rw [← Int.natCast_mul]; omega
          have f6 : 0 ≤ (f k : Int) * (g j : Int) := by rw [← Int.natCast_mul]; omega
          have i3 : (0 : Int) ≤ (j : Int) := by omega
          have i4 : (j : Int) < (m' : Int) := by omega
          have i5 : (0 : Int) ≤ (k : Int) + (j : Int) := by omega
          have i6 : (k : Int) + (j : Int) < (n' : Int) + (m' : Int) := by omega
          clear hc2 c1
          go_wp2
          go_quiet (fail)
          go_wp2
          have HP : Hid (f k * g j ≤ 18446744065119617025) := prod_le _ _ f1 f3
          have hs : y + (f k * g j + c (k + j)) < 18446744073709551616 := by have := HP.out; omega
          have ec : (y : Int) + ((f k : Int) * (g j : Int) + (c (k + j) : Int)) = ((y + (f k * g j + c (k + j)) : Nat) : Int) := by
            rw [Int.natCast_add, Int.natCast_add, Int.natCast_mul]
          go_roundw
          case rel =>
            refine ⟨j + 1, (y + (f k * g j + c (k + j))) / 4294967296, _, by omega, by go_num, ?_, by omega, (hr.drewN _).setI (k + j) ((y + (f k * g j + c (k + j))) % 4294967296) ?_, add_lim HL.out (by omega), mul_zero HZ.out (by omega), ?_, (below_drewN hb _).setCell (Nat.le_refl _) _⟩
            · rw [ec]; go_num
            · rw [ec]; omega
            · exact mul_step HV.out rfl (by omega)
          case measure => simp [intOf]; omega
        · have e : j = m' := by omega
          subst e
          have d3 : wr.cell? ⟨w1.heap.size, k + j, none⟩ = some (.int .u32 (c (k + j))) := hr.cell (by omega)
          have f2 := hr.frozen (k + j)
          have f4 := HZ.out (k + j) (by omega) (by omega)
          have HF4 : Hid (c (k + j) = 0) := f4
          clear f4 c1
          go_wp2
          go_roundw
          case rel =>
            refine ⟨k + 1, _, by omega, by go_num, hr.setI (k + j) y (by omega), add_lim HL.out (by omega), ?_, ?_, hb.setCell (Nat.le_refl _) _⟩
            · unfold Hid
              intro i h1 h2
              show (if i = k + j then y else c i) = 0
              rw [if_neg (by omega)]
              exact HZ.out i (by omega) h2
            · exact mul_end HV.out (by omega) HF4.out
          case measure => simp [intOf]; omega
    · have e : k = n' := by omega
      subst e
      have hlm := hr.lm (by omega) HL.out
      have HVV : Hid (val c (k + m') = val f n * val g m) := by
        unfold Hid; rw [HV.out]; exact HE.out
      clear hmk
      go_wp2_with fail
      refine (trim_any _ _ _ c _ hlm).mono ?_
      rintro e w3 ⟨⟨ao3, n3, cap3, rfl, hT⟩, rfl⟩
      have hN := hT.natV
      rw [HVV.out] at hN
      clear hT hlm
      go_wp2
      go_ret
      exact ⟨⟨_, rfl, hN⟩, hb⟩

end Go.Proofs.Ygcoah
