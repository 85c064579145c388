/-
  THE WALKS OF PACKAGE nat, 4: Sub.
-/
import Derived.Test.YgcoahNat3
namespace Go.Proofs.Ygcoah
open Go.RowKit

def bor (a y g : Nat) : Nat := if a < y + g then 1 else 0
theorem bor_le (a y g : Nat) : bor a y g ≤ 1 := by unfold bor; split <;> omega

theorem sub_step {c f g : Nat → Nat} {k y b : Nat} (h : val f k + y * 4294967296 ^ k = val c k + val g k) (hc : c k = 0) (hf : f k < 4294967296) (hg : b = g k) (hb : b < 4294967296) (hy : y ≤ 1) :
    val f (k + 1) + bor (f k) y b * 4294967296 ^ (k + 1) = val (fun j => if j = k then (f k + 8589934592 - y - b) % 4294967296 else c j) (k + 1) + val g (k + 1) := by
  have h1 := val_set c (k + 1) k ((f k + 8589934592 - y - b) % 4294967296) (by omega)
  have h3 : val c (k + 1) = val c k + c k * 4294967296 ^ k := rfl
  have h4 : val f (k + 1) = val f k + f k * 4294967296 ^ k := rfl
  have h5 : val g (k + 1) = val g k + g k * 4294967296 ^ k := rfl
  rw [hc] at h1 h3
  rw [← hg] at h5
  have key : f k + bor (f k) y b * 4294967296 = (f k + 8589934592 - y - b) % 4294967296 + y + b := by
    unfold bor; split <;> omega
  have h6 : (f k + bor (f k) y b * 4294967296) * 4294967296 ^ k = ((f k + 8589934592 - y - b) % 4294967296 + y + b) * 4294967296 ^ k := by rw [key]
  rw [Nat.add_mul, Nat.add_mul, Nat.add_mul] at h6
  have h7 : bor (f k) y b * 4294967296 ^ (k + 1) = bor (f k) y b * 4294967296 * 4294967296 ^ k := by rw [Nat.pow_succ, Nat.mul_assoc, Nat.mul_comm (4294967296 ^ k)]
  omega

theorem sub_word (a y g : Nat) (ha : a < 4294967296) (hg : g < 4294967296) (hy : y ≤ 1) :
    IntKind.u64.wrap (IntKind.u64.wrap ((a : Int) - (y : Int)) - (g : Int)) / 9223372036854775808 = ((bor a y g : Nat) : Int) ∧
    IntKind.u64.wrap (IntKind.u64.wrap ((a : Int) - (y : Int)) - (g : Int)) % 4294967296 = (((a + 8589934592 - y - g) % 4294967296 : Nat) : Int) := by
  simp only [IntKind.wrap_u64]
  unfold bor
  split <;> omega
theorem sub_word0 (a y : Nat) (ha : a < 4294967296) (hy : y ≤ 1) :
    IntKind.u64.wrap ((a : Int) - (y : Int)) / 9223372036854775808 = ((bor a y 0 : Nat) : Int) ∧
    IntKind.u64.wrap ((a : Int) - (y : Int)) % 4294967296 = (((a + 8589934592 - y - 0) % 4294967296 : Nat) : Int) := by
  simp only [IntKind.wrap_u64]
  unfold bor
  split <;> omega

theorem sub_end {c f g : Nat → Nat} {n y : Nat} (h : val f n + y * 4294967296 ^ n = val c n + val g n) (hc : ∀ i, i < n → c i < 4294967296) (hle : val g n ≤ val f n) (hy : y ≤ 1) : val c n = val f n - val g n := by
  have h1 := val_lt c n hc
  have : y = 0 := by
    false_or_by_contra
    have e : y = 1 := by omega
    subst e
    omega
  subst this
  omega

set_option maxHeartbeats 400000 in
theorem sub_any (ao ao2 : Option Addr) (n cap m cap2 : Nat) (f g : Nat → Nat) (w : World) (h : Lm w ao n cap f) (h2 : Lm w ao2 m cap2 g) :
    Calls Oahg.prog 136 #[.slice ao n cap, .slice ao2 m cap2] w fun e w' => (∃ v, e = .returned (.tuple #[v, .bool (decide (val g m ≤ val f n))]) ∧ NatV w' v (val f n - val g m)) ∧ Below w.heap.size w w' := by
  go_enter Oahg.func136, Oahg.ntmps136
  go_wp2_with fail
  refine (trim_any ao n cap f _ h).mono ?_
  rintro e w0 ⟨⟨ao', n', cap', rfl, hT⟩, rfl⟩
  go_wp2_with fail
  refine (trim_any ao2 m cap2 g _ h2).mono ?_
  rintro e w0 ⟨⟨bo', m', cbp', rfl, hT2⟩, rfl⟩
  obtain ⟨hl, hz, htop, hle, hv⟩ := hT
  obtain ⟨hl2, hz2, htop2, hle2, hv2⟩ := hT2
  go_wp2_with fail
  refine (cmp_any ao' bo' n' cap' m' cbp' f g _ hl hl2).mono ?_
  rintro e w1 ⟨rfl, hb1⟩
  have hlw := hl.below hb1
  have hlw2 := hl2.below hb1
  clear hl hl2 h h2
  have hcap := hlw.top
  have hfit := hlw.fits
  have hcap2 := hlw2.top
  have hfit2 := hlw2.fits
  have HN : Hid (val f n' = val f n) := hv
  have HM : Hid (val g m' = val g m) := hv2
  have HB1 : Hid (Below w0.heap.size w0 w1) := hb1
  have hsz := hb1.size
  by_cases hlt : val f n' < val g m'
  · have hc : cmpI (val f n') (val g m') = -1 := cmpI_lt hlt
    have HD : Hid (decide (val g m ≤ val f n) = false) := by unfold Hid; rw [← hv, ← hv2]; simp; omega
    have HS : Hid (val f n - val g m = 0) := by unfold Hid; rw [← hv, ← hv2]; omega
    clear hv hv2 htop htop2 hz hz2 hb1
    go_wp2
    go_ret2
    refine ⟨⟨.slice none 0 0, by rw [HD.out]; rfl, ?_⟩, HB1.out⟩
    rw [HS.out]
    exact ⟨none, 0, 0, fun _ => 0, rfl, ⟨by omega, by omega, fun i hi => by omega, fun h => by omega⟩, fun _ => ⟨rfl, rfl⟩, fun h => by omega, rfl⟩
  · have hmn : m' ≤ n' := by
      false_or_by_contra
      exact hlt (val_lt_of_len f g n' m' (by omega) hlw.lim (htop2 (by omega)))
    have hc : 0 ≤ cmpI (val f n') (val g m') := by
      have := cmpI_neg_iff (val f n') (val g m'); omega
    have HLE : Hid (val g m' ≤ val f n') := by unfold Hid; omega
    have HD : Hid (decide (val g m ≤ val f n) = true) := by unfold Hid; rw [← hv, ← hv2]; simp; omega
    generalize cmpI (val f n') (val g m') = cc at *
    have hmk := make54 n' (by omega)
    clear hv hv2 htop htop2 hz hz2 hb1 hlt
    go_wp2
    go_loopw [7, 23] (fun cy t wr => ∃ k y : Nat, ∃ c : Nat → Nat, k ≤ n' ∧ t = .int .i64 k ∧ cy = .int .u64 y ∧ y ≤ 1 ∧ Row wr w1.heap.size n' c ∧ Hid (∀ i, i < n' → c i < 4294967296) ∧ Hid (∀ i, k ≤ i → i < n' → c i = 0) ∧ Hid (val f k + y * 4294967296 ^ k = val c k + val (ext0 g m') k) ∧ Below w1.heap.size w1 wr) (fun _ t _ => n' - (intOf t).toNat)
    case atStart => exact ⟨0, 0, fun _ => 0, by omega, rfl, rfl, by omega, Row.made w1 n', by unfold Hid; intro i _; show 0 < 4294967296; omega, by unfold Hid; intros; rfl, by unfold Hid; simp [val], (Below.refl _ _).alloc (Nat.le_refl _) _⟩
    case round =>
      obtain ⟨k, y, c, hk, rfl, rfl, hy, hr, HL, HZ, HV, hb⟩ := hrel
      by_cases hkn : k < n'
      · obtain ⟨b, off, rfl, hlt, hc⟩ := hlw.at (by omega)
        have c1 : wr.cell? ⟨b, off + k, none⟩ = some (.int .u32 (f k)) := (hb.cell (p := ⟨b, off + k, none⟩) hlt).trans (hc k hkn)
        have f1 : f k < 4294967296 := hlw.lim k hkn
        have c2 : wr.cell? ⟨w1.heap.size, k, none⟩ = some (.int .u32 (c k)) := hr.cell (by omega)
        have f2 := hr.frozen k
        by_cases hkm : k < m'
        · obtain ⟨b2, off2, rfl, hlt2, hc2⟩ := hlw2.at (by omega)
          have c3 : wr.cell? ⟨b2, off2 + k, none⟩ = some (.int .u32 (g k)) := (hb.cell (p := ⟨b2, off2 + k, none⟩) hlt2).trans (hc2 k hkm)
          have f3 : g k < 4294967296 := hlw2.lim k hkm
          clear hc hc2 hmk
          go_wp2
          go_roundw
          case rel =>
            refine ⟨k + 1, bor (f k) y (g k), _, by omega, by go_num, ?_, bor_le _ _ _, hr.setI k ((f k + 8589934592 - y - g k) % 4294967296) ?_, add_lim HL.out (by omega), add_zero HZ.out, ?_, hb.setCell (Nat.le_refl _) _⟩
            · rw [(sub_word (f k) y (g k) f1 f3 hy).1]
            · exact (sub_word (f k) y (g k) f1 f3 hy).2
            · exact sub_step HV.out (HZ.out k (Nat.le_refl _) (by omega)) f1 (by rw [ext0_lt hkm]) f3 hy
          case measure => simp [intOf]; omega
        · clear hc hmk
          go_wp2
          go_roundw
          case rel =>
            refine ⟨k + 1, bor (f k) y 0, _, by omega, by go_num, ?_, bor_le _ _ _, hr.setI k ((f k + 8589934592 - y - 0) % 4294967296) ?_, add_lim HL.out (by omega), add_zero HZ.out, ?_, hb.setCell (Nat.le_refl _) _⟩
            · rw [(sub_word0 (f k) y f1 hy).1]
            · exact (sub_word0 (f k) y f1 hy).2
            · exact sub_step HV.out (HZ.out k (Nat.le_refl _) (by omega)) f1 (by rw [ext0_ge (by omega)]) (by omega) hy
          case measure => simp [intOf]; omega
      · have e : k = n' := by omega
        subst e
        have hlm := hr.lm (by omega) HL.out
        have HVV : Hid (val c k = val f n - val g m) := by
          unfold Hid
          have h2 := HV.out
          rw [← HN.out, ← HM.out, ← val_ext0 g m' k hmn]
          refine sub_end h2 HL.out ?_ hy
          rw [val_ext0 g m' k hmn]
          exact HLE.out
        clear hmk
        go_wp2_with fail
        refine (trim_any _ _ _ c _ hlm).mono ?_
        rintro e w3 ⟨⟨ao3, n3, cap3, rfl, hT⟩, rfl⟩
        have hN := hT.natV
        rw [HVV.out] at hN
        clear hT hlm
        go_wp2
        go_ret2
        exact ⟨⟨_, by rw [HD.out]; rfl, hN⟩, HB1.out.trans (hb.mono hsz)⟩

end Go.Proofs.Ygcoah
