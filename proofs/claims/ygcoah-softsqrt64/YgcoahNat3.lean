/-
  THE WALKS OF PACKAGE nat, 3: Add.
-/
import Derived.Test.YgcoahNat2
namespace Go.Proofs.Ygcoah
open Go.RowKit

theorem add_lim {c : Nat → Nat} {L k x : Nat} (h : ∀ i, i < L → c i < 4294967296) (hx : x < 4294967296) : ∀ i, i < L → (fun j => if j = k then x else c j) i < 4294967296 := by
  intro i hi
  show (if i = k then x else c i) < 4294967296
  split
  · exact hx
  · exact h i hi
theorem add_zero {c : Nat → Nat} {L k x : Nat} (h : ∀ i, k ≤ i → i < L → c i = 0) : ∀ i, k + 1 ≤ i → i < L → (fun j => if j = k then x else c j) i = 0 := by
  intro i h1 h2
  show (if i = k then x else c i) = 0
  rw [if_neg (by omega)]
  exact h i (by omega) h2
theorem add_step {c f g : Nat → Nat} {k y s : Nat} (h : val c k + y * 4294967296 ^ k = val f k + val g k) (hs : s = y + f k + g k) (hc : c k = 0) :
    val (fun j => if j = k then s % 4294967296 else c j) (k + 1) + s / 4294967296 * 4294967296 ^ (k + 1) = val f (k + 1) + val g (k + 1) := by
  have h1 := val_set c (k + 1) k (s % 4294967296) (by omega)
  have h3 : val c (k + 1) = val c k + c k * 4294967296 ^ k := rfl
  have h4 : val f (k + 1) = val f k + f k * 4294967296 ^ k := rfl
  have h5 : val g (k + 1) = val g k + g k * 4294967296 ^ k := rfl
  have h6 : s / 4294967296 * 4294967296 ^ (k + 1) = s / 4294967296 * 4294967296 * 4294967296 ^ k := by rw [Nat.pow_succ, Nat.mul_assoc, Nat.mul_comm (4294967296 ^ k)]
  have h7 : s / 4294967296 * 4294967296 * 4294967296 ^ k + s % 4294967296 * 4294967296 ^ k = s * 4294967296 ^ k := by
    rw [← Nat.add_mul]; congr 1; omega
  have h8 : s * 4294967296 ^ k = y * 4294967296 ^ k + f k * 4294967296 ^ k + g k * 4294967296 ^ k := by rw [hs, Nat.add_mul, Nat.add_mul]
  rw [hc] at h1 h3
  omega

set_option maxHeartbeats 400000 in
theorem add_any (ao ao2 : Option Addr) (n cap m cap2 : Nat) (f g : Nat → Nat) (w : World) (h : Lm w ao n cap f) (h2 : Lm w ao2 m cap2 g) (hn : n ≤ 100000000) (hm : m ≤ 100000000) :
    Calls Oahg.prog 135 #[.slice ao n cap, .slice ao2 m cap2] w fun e w' => (∃ v, e = .returned v ∧ NatV w' v (val f n + val g m)) ∧ Below w.heap.size w w' := by
  go_enter Oahg.func135, Oahg.ntmps135
  go_wp2_with fail
  refine (trim_any ao n cap f _ h).mono ?_
  rintro e w1 ⟨⟨ao', n', cap', rfl, hT⟩, rfl⟩
  go_wp2_with fail
  refine (trim_any ao2 m cap2 g _ h2).mono ?_
  rintro e w1 ⟨⟨bo', m', cbp', rfl, hT2⟩, rfl⟩
  obtain ⟨hl, hz, htop, hle, hv⟩ := hT
  obtain ⟨hl2, hz2, htop2, hle2, hv2⟩ := hT2
  have hcap := hl.top
  have hfit := hl.fits
  have hcap2 := hl2.top
  have hfit2 := hl2.fits
  have HE : Hid (val f n' + val g m' = val f n + val g m) := by unfold Hid; rw [hv, hv2]
  clear hv hv2 h h2 htop htop2 hz hz2
  by_cases hsw : n' < m'
  · have HE2 : Hid (val g m' + val f n' = val f n + val g m) := by have := HE.out; unfold Hid; omega
    have hsw' : n' ≤ m' := by omega
    have hmk := make54 (m' + 1) (by omega)
    rw [show ((m' + 1 : Nat) : Int) = (m' : Int) + 1 from by omega] at hmk
    go_wp2
    go_loopw [6, 25] (fun cy t wr => ∃ k y : Nat, ∃ c : Nat → Nat, k ≤ m' ∧ t = .int .i64 k ∧ cy = .int .u64 y ∧ y ≤ 1 ∧ Row wr w1.heap.size (m' + 1) c ∧ Hid (∀ i, i < m' + 1 → c i < 4294967296) ∧ Hid (∀ i, k ≤ i → i < m' + 1 → c i = 0) ∧ Hid (val c k + y * 4294967296 ^ k = val g k + val (ext0 f n') k) ∧ Below w1.heap.size w1 wr) (fun _ t _ => m' - (intOf t).toNat)
    case atStart => exact ⟨0, 0, fun _ => 0, by omega, rfl, rfl, by omega, Row.made w1 (m' + 1), by unfold Hid; intro i _; show 0 < 4294967296; omega, by unfold Hid; intros; rfl, by unfold Hid; simp [val], (Below.refl _ _).alloc (Nat.le_refl _) _⟩
    case round =>
      obtain ⟨k, y, c, hk, rfl, rfl, hy, hr, HL, HZ, HV, hb⟩ := hrel
      by_cases hkn : k < m'
      · obtain ⟨b, off, rfl, hlt, hc⟩ := hl2.at (by omega)
        have c1 : wr.cell? ⟨b, off + k, none⟩ = some (.int .u32 (g k)) := (hb.cell (p := ⟨b, off + k, none⟩) hlt).trans (hc k hkn)
        have f1 : g k < 4294967296 := hl2.lim k hkn
        have c2 : wr.cell? ⟨w1.heap.size, k, none⟩ = some (.int .u32 (c k)) := hr.cell (by omega)
        have f2 := hr.frozen k
        by_cases hkm : k < n'
        · obtain ⟨b2, off2, rfl, hlt2, hc2⟩ := hl.at (by omega)
          have c3 : wr.cell? ⟨b2, off2 + k, none⟩ = some (.int .u32 (f k)) := (hb.cell (p := ⟨b2, off2 + k, none⟩) hlt2).trans (hc2 k hkm)
          have f3 : f k < 4294967296 := hl.lim k hkm
          clear hc hc2 hmk
          go_wp2
          go_roundw
          case rel =>
            refine ⟨k + 1, (y + g k + f k) / 4294967296, _, by omega, by go_num, by go_num, by omega, hr.setI k ((y + g k + f k) % 4294967296) (by omega), add_lim HL.out (by omega), add_zero HZ.out, ?_, hb.setCell (Nat.le_refl _) _⟩
            exact add_step HV.out (by rw [ext0_lt hkm]) (HZ.out k (Nat.le_refl _) (by omega))
          case measure => simp [intOf]; omega
        · clear hc hmk
          go_wp2
          go_roundw
          case rel =>
            refine ⟨k + 1, (y + g k) / 4294967296, _, by omega, by go_num, by go_num, by omega, hr.setI k ((y + g k) % 4294967296) (by omega), add_lim HL.out (by omega), add_zero HZ.out, ?_, hb.setCell (Nat.le_refl _) _⟩
            exact add_step HV.out (by rw [ext0_ge (by omega)]; omega) (HZ.out k (Nat.le_refl _) (by omega))
          case measure => simp [intOf]; omega
      · have e : k = m' := by omega
        subst e
        have c2 : wr.cell? ⟨w1.heap.size, k, none⟩ = some (.int .u32 (c k)) := hr.cell (by omega)
        have f2 := hr.frozen k
        have hset := hr.setI k y (z := (y : Int)) rfl
        have hlm := hset.lm (by omega) (add_lim HL.out (by omega))
        have HVV : Hid (val (fun j => if j = k then y else c j) (k + 1) = val f n + val g m) := by
          unfold Hid
          have h1 := val_set c (k + 1) k y (by omega)
          have h2 := HV.out
          rw [val_ext0 f n' k hsw', HE2.out] at h2
          have h3 : val c (k + 1) = val c k + c k * 4294967296 ^ k := rfl
          omega
        generalize (fun j => if j = k then y else c j) = G at *
        clear hmk
        go_wp2_with fail
        refine (trim_any _ _ _ G _ hlm).mono ?_
        rintro e w3 ⟨⟨ao3, n3, cap3, rfl, hT⟩, rfl⟩
        have hN := hT.natV
        rw [HVV.out] at hN
        clear hT hlm hset
        go_wp2
        go_ret
        exact ⟨⟨_, rfl, hN⟩, hb.setCell (Nat.le_refl _) _⟩
  · have HE2 : Hid (val f n' + val g m' = val f n + val g m) := by have := HE.out; unfold Hid; omega
    have hsw' : m' ≤ n' := by omega
    have hmk := make54 (n' + 1) (by omega)
    rw [show ((n' + 1 : Nat) : Int) = (n' : Int) + 1 from by omega] at hmk
    go_wp2
    go_loopw [6, 25] (fun cy t wr => ∃ k y : Nat, ∃ c : Nat → Nat, k ≤ n' ∧ t = .int .i64 k ∧ cy = .int .u64 y ∧ y ≤ 1 ∧ Row wr w1.heap.size (n' + 1) c ∧ Hid (∀ i, i < n' + 1 → c i < 4294967296) ∧ Hid (∀ i, k ≤ i → i < n' + 1 → c i = 0) ∧ Hid (val c k + y * 4294967296 ^ k = val f k + val (ext0 g m') k) ∧ Below w1.heap.size w1 wr) (fun _ t _ => n' - (intOf t).toNat)
    case atStart => exact ⟨0, 0, fun _ => 0, by omega, rfl, rfl, by omega, Row.made w1 (n' + 1), by unfold Hid; intro i _; show 0 < 4294967296; omega, by unfold Hid; intros; rfl, by unfold Hid; simp [val], (Below.refl _ _).alloc (Nat.le_refl _) _⟩
    case round =>
      obtain ⟨k, y, c, hk, rfl, rfl, hy, hr, HL, HZ, HV, hb⟩ := hrel
      by_cases hkn : k < n'
      · obtain ⟨b, off, rfl, hlt, hc⟩ := hl.at (by omega)
        have c1 : wr.cell? ⟨b, off + k, none⟩ = some (.int .u32 (f k)) := (hb.cell (p := ⟨b, off + k, none⟩) hlt).trans (hc k hkn)
        have f1 : f k < 4294967296 := hl.lim k hkn
        have c2 : wr.cell? ⟨w1.heap.size, k, none⟩ = some (.int .u32 (c k)) := hr.cell (by omega)
        have f2 := hr.frozen k
        by_cases hkm : k < m'
        · obtain ⟨b2, off2, rfl, hlt2, hc2⟩ := hl2.at (by omega)
          have c3 : wr.cell? ⟨b2, off2 + k, none⟩ = some (.int .u32 (g k)) := (hb.cell (p := ⟨b2, off2 + k, none⟩) hlt2).trans (hc2 k hkm)
          have f3 : g k < 4294967296 := hl2.lim k hkm
          clear hc hc2 hmk
          go_wp2
          go_roundw
          case rel =>
            refine ⟨k + 1, (y + f k + g k) / 4294967296, _, by omega, by go_num, by go_num, by omega, hr.setI k ((y + f k + g k) % 4294967296) (by omega), add_lim HL.out (by omega), add_zero HZ.out, ?_, hb.setCell (Nat.le_refl _) _⟩
            exact add_step HV.out (by rw [ext0_lt hkm]) (HZ.out k (Nat.le_refl _) (by omega))
          case measure => simp [intOf]; omega
        · clear hc hmk
          go_wp2
          go_roundw
          case rel =>
            refine ⟨k + 1, (y + f k) / 4294967296, _, by omega, by go_num, by go_num, by omega, hr.setI k ((y + f k) % 4294967296) (by omega), add_lim HL.out (by omega), add_zero HZ.out, ?_, hb.setCell (Nat.le_refl _) _⟩
            exact add_step HV.out (by rw [ext0_ge (by omega)]; omega) (HZ.out k (Nat.le_refl _) (by omega))
          case measure => simp [intOf]; omega
      · have e : k = n' := by omega
        subst e
        have c2 : wr.cell? ⟨w1.heap.size, k, none⟩ = some (.int .u32 (c k)) := hr.cell (by omega)
        have f2 := hr.frozen k
        have hset := hr.setI k y (z := (y : Int)) rfl
        have hlm := hset.lm (by omega) (add_lim HL.out (by omega))
        have HVV : Hid (val (fun j => if j = k then y else c j) (k + 1) = val f n + val g m) := by
          unfold Hid
          have h1 := val_set c (k + 1) k y (by omega)
          have h2 := HV.out
          rw [val_ext0 g m' k hsw', HE2.out] at h2
          have h3 : val c (k + 1) = val c k + c k * 4294967296 ^ k := rfl
          omega
        generalize (fun j => if j = k then y else c j) = G at *
        clear hmk
        go_wp2_with fail
        refine (trim_any _ _ _ G _ hlm).mono ?_
        rintro e w3 ⟨⟨ao3, n3, cap3, rfl, hT⟩, rfl⟩
        have hN := hT.natV
        rw [HVV.out] at hN
        clear hT hlm hset
        go_wp2
        go_ret
        exact ⟨⟨_, rfl, hN⟩, hb.setCell (Nat.le_refl _) _⟩

end Go.Proofs.Ygcoah
