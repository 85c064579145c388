/-
  THE WALKS OF PACKAGE nat, 1: trim, width32, BitLen, Bit, Cmp.
-/
import Derived.Test.YgcoahBase
namespace Go.Proofs.Ygcoah
open Go.RowKit

/-- What trim hands back. -/
def Trimmed (w : World) (f : Nat → Nat) (n : Nat) (ao' : Option Addr) (n' cap' : Nat) : Prop :=
  Lm w ao' n' cap' f ∧ (n' = 0 → ao' = none ∧ cap' = 0) ∧ (0 < n' → f (n' - 1) ≠ 0) ∧ n' ≤ n ∧ val f n' = val f n

theorem Trimmed.natV {w : World} {f : Nat → Nat} {n : Nat} {ao' : Option Addr} {n' cap' : Nat} (h : Trimmed w f n ao' n' cap') : NatV w (.slice ao' n' cap') (val f n) :=
  ⟨⟨ao', n', cap', f, rfl, h.1, h.2.1, h.2.2.1, h.2.2.2.2⟩⟩

set_option maxHeartbeats 400000 in
theorem trim_any (ao : Option Addr) (n cap : Nat) (f : Nat → Nat) (w : World) (h : Lm w ao n cap f) :
    Calls Oahg.prog 72 #[.slice ao n cap] w fun e w' => (∃ ao' n' cap', e = .returned (.slice ao' n' cap') ∧ Trimmed w f n ao' n' cap') ∧ w' = w := by
  obtain ⟨hcap, htop, hlim, hmem⟩ := h
  go_enter Oahg.func72, Oahg.ntmps72
  go_wp2
  go_loop [3] (fun t => ∃ k : Nat, k ≤ n ∧ t = .int .i64 k ∧ ∀ i, k ≤ i → i < n → f i = 0) (fun t => (intOf t).toNat)
  case atStart => exact ⟨n, by omega, rfl, fun i h1 h2 => by omega⟩
  case round =>
    obtain ⟨k, hk, rfl, hz⟩ := hrel
    have HZ : Hid (∀ i, k ≤ i → i < n → f i = 0) := hz
    clear hz
    by_cases h0 : k = 0
    · subst h0
      go_wp2
      go_ret
      refine ⟨⟨none, 0, 0, rfl, ⟨Nat.le_refl _, by omega, fun i hi => by omega, fun h => by omega⟩, fun _ => ⟨rfl, rfl⟩, fun h => by omega, by omega, (val_zeros f 0 n (by omega) HZ.out).symm⟩, rfl⟩
    · obtain ⟨b, off, rfl, hlt, hc⟩ := hmem (by omega)
      have h1 : w.cell? ⟨b, off + (k - 1), none⟩ = some (.int .u32 (f (k - 1))) := hc _ (by omega)
      have HC : Hid (∀ i, i < n → w.cell? ⟨b, off + i, none⟩ = some (.int .u32 (f i))) := hc
      have HL : Hid (∀ i, i < n → f i < 4294967296) := hlim
      clear hc hmem hlim
      by_cases hf : f (k - 1) = 0
      · go_wp2
        go_round
        case rel =>
          refine ⟨k - 1, by omega, by go_num, fun i h1 h2 => ?_⟩
          by_cases e : i = k - 1
          · rw [e]; exact hf
          · exact HZ.out i (by omega) h2
        case measure => simp [intOf]; omega
      · go_wp2
        go_ret
        exact ⟨⟨_, k, cap, rfl, ⟨by omega, htop, fun i hi => HL.out i (by omega), fun _ => ⟨b, off, rfl, hlt, fun i hi => HC.out i (by omega)⟩⟩, fun h => by omega, fun _ => hf, hk, (val_zeros f k n hk HZ.out).symm⟩, rfl⟩


theorem bl_step (x k : Nat) (h : x / 2 ^ k = 0) (h1 : 0 < k → x / 2 ^ (k - 1) ≠ 0) : bl x = k := by
  have hx : x < 2 ^ k := by
    have := Nat.div_eq_zero_iff.1 h
    have hp : 0 < 2 ^ k := Nat.pow_pos (by decide)
    omega
  by_cases h0 : k = 0
  · subst h0; simp at hx; subst hx; rfl
  · have h2 : 2 ^ (k - 1) ≤ x := by
      have := h1 (by omega)
      have hp : 0 < 2 ^ (k - 1) := Nat.pow_pos (by decide)
      false_or_by_contra
      exact this (Nat.div_eq_of_lt (by omega))
    have := bl_eq_of x (k - 1) (by rw [show k - 1 + 1 = k by omega]; exact hx) h2
    omega

set_option maxHeartbeats 400000 in
theorem width32_any (x : Nat) (w : World) (h : x < 4294967296) :
    Calls Oahg.prog 108 #[.int .u32 x] w fun e w' => e = .returned (.int .i64 (bl x)) ∧ w' = w := by
  go_enter Oahg.func108, Oahg.ntmps108
  go_wp2
  go_loop [0, 3] (fun t i => ∃ k y : Nat, k ≤ 32 ∧ Hid (y = x / 2 ^ k) ∧ y < 4294967296 ∧ t = .int .u32 y ∧ i = .int .i64 k ∧ Hid (0 < k → x / 2 ^ (k - 1) ≠ 0)) (fun t _ => (intOf t).toNat)
  case atStart => exact ⟨0, x, by omega, by unfold Hid; simp, h, rfl, rfl, by unfold Hid; intro h; omega⟩
  case round =>
    obtain ⟨k, y, hk, hy, hlt, rfl, rfl, h1⟩ := hrel
    by_cases h0 : y = 0
    · subst h0
      go_wp2
      go_ret
      exact ⟨by rw [bl_step x k hy.out.symm h1.out]; rfl, rfl⟩
    · have hk' : k < 32 := by
        false_or_by_contra
        have e : k = 32 := by omega
        subst e
        have := hy.out
        rw [Nat.div_eq_of_lt h] at this
        exact h0 this
      go_wp2
      go_round
      case rel =>
        refine ⟨k + 1, y / 2, by omega, ?_, by omega, by go_num, by go_num, ?_⟩
        · unfold Hid; rw [hy.out, Nat.pow_succ, Nat.div_div_eq_div_mul]
        · unfold Hid; intro _; rw [Nat.add_sub_cancel, ← hy.out]; exact h0
      case measure => simp [intOf]; omega


attribute [local go_sem] eqNil neNil

/-- What the walk asks of a number's memory, at an index that is there. -/
theorem Lm.at {w : World} {ao : Option Addr} {n cap : Nat} {f : Nat → Nat} (h : Lm w ao n cap f) (h0 : 0 < n) : ∃ b off, ao = some ⟨b, off, none⟩ ∧ b < w.heap.size ∧ ∀ i, i < n → w.cell? ⟨b, off + i, none⟩ = some (.int .u32 (f i)) := h.mem h0

theorem bl_limbs (f : Nat → Nat) (n : Nat) (hl : ∀ i, i < n → f i < 4294967296) (h0 : 0 < n) (h1 : f (n - 1) ≠ 0) : bl (val f n) = 32 * (n - 1) + bl (f (n - 1)) := by
  obtain ⟨m, rfl⟩ : ∃ m, n = m + 1 := ⟨n - 1, by omega⟩
  rw [Nat.add_sub_cancel] at h1 ⊢
  rw [val, base_pow]
  exact bl_shift _ _ _ (by omega) (by rw [← base_pow]; exact val_lt f m (fun i hi => hl i (by omega)))

set_option maxHeartbeats 400000 in
theorem bitLen_any (ao : Option Addr) (n cap : Nat) (f : Nat → Nat) (w : World) (h : Lm w ao n cap f) :
    Calls Oahg.prog 65 #[.slice ao n cap] w fun e w' => e = .returned (.int .i64 (bl (val f n))) ∧ w' = w := by
  go_enter Oahg.func65, Oahg.ntmps65
  go_wp2_with fail
  refine (trim_any ao n cap f _ h).mono ?_
  rintro e w1 ⟨⟨ao', n', cap', rfl, hT⟩, rfl⟩
  obtain ⟨hl, hz, htop, hle, hv⟩ := hT
  have hcap := hl.top
  have hfit := hl.fits
  by_cases h0 : n' = 0
  · obtain ⟨rfl, rfl⟩ := hz h0
    subst h0
    have HV : Hid (val f 0 = val f n) := hv
    clear hv hz htop hl
    go_wp2
    go_ret
    exact ⟨by rw [← HV.out]; rfl, rfl⟩
  · obtain ⟨b, off, rfl, hlt, hc⟩ := hl.at (by omega)
    have h1 : w1.cell? ⟨b, off + (n' - 1), none⟩ = some (.int .u32 (f (n' - 1))) := hc _ (by omega)
    have hlim := hl.lim
    have HB : Hid (bl (val f n) = 32 * (n' - 1) + bl (f (n' - 1))) := by unfold Hid; rw [← hv]; exact bl_limbs f n' hlim (by omega) (htop (by omega))
    have hb1 : bl (f (n' - 1)) ≤ 32 := (bl_le_iff _ _).2 (hlim _ (by omega))
    have hl1 : f (n' - 1) < 4294967296 := hlim _ (by omega)
    clear hc hv hz htop hl hlim h
    go_wp2_with (go_at_call 108; refine (width32_any _ _ hl1).mono ?_; rintro e w2 ⟨rfl, rfl⟩)
    go_ret
    refine ⟨?_, rfl⟩
    rw [HB.out]
    show Ending.returned (.int .i64 (32 * ((n' : Int) - 1) + (bl (f (n' - 1)) : Int))) = _
    congr 2
    omega


theorem val_mod2 (f : Nat → Nat) (n : Nat) (h : 0 < n) : val f n % 2 = f 0 % 2 := by
  induction n with
  | zero => omega
  | succ n ih =>
    by_cases e : n = 0
    · subst e; simp [val]
    · rw [val]
      obtain ⟨m, rfl⟩ : ∃ m, n = m + 1 := ⟨n - 1, by omega⟩
      have := ih (by omega)
      have h2 : f (m + 1) * 4294967296 ^ (m + 1) = 2 * (f (m + 1) * (2147483648 * 4294967296 ^ m)) := by
        rw [Nat.pow_succ]
        generalize 4294967296 ^ m = p
        generalize f (m + 1) = q
        rw [show p * 4294967296 = 2 * (2147483648 * p) by omega, Nat.mul_left_comm]
      omega

theorem u32_and_one (x : Nat) (h : x < 4294967296) : bits .and .u32 (x : Int) 1 = ((x % 2 : Nat) : Int) := by
  have := u32_and_nat x 1 h (by decide)
  rw [nat_mask1] at this
  exact this

set_option maxHeartbeats 400000 in
theorem bit_any (ao : Option Addr) (n cap : Nat) (f : Nat → Nat) (w : World) (h : Lm w ao n cap f) :
    Calls Oahg.prog 107 #[.slice ao n cap, .int .i64 0] w fun e w' => e = .returned (.bool (decide (val f n % 2 = 1))) ∧ w' = w := by
  have hcap := h.top
  have hfit := h.fits
  by_cases h0 : n = 0
  · subst h0
    have : decide (val f 0 % 2 = 1) = false := by simp [val]
    rw [this]
    go_enter Oahg.func107, Oahg.ntmps107
    go_wp2
    go_ret
    exact ⟨rfl, rfl⟩
  · obtain ⟨b, off, rfl, hlt, hc⟩ := h.at (by omega)
    have h1 : w.cell? ⟨b, off, none⟩ = some (.int .u32 (f 0)) := hc 0 (by omega)
    have hl1 : f 0 < 4294967296 := h.lim _ (by omega)
    rw [val_mod2 f n (by omega)]
    have e1 := u32_and_one (f 0) hl1
    clear hc h
    go_enter Oahg.func107, Oahg.ntmps107
    go_wp2
    go_ret
    refine ⟨?_, rfl⟩
    show Ending.returned (.bool _) = _
    congr 2
    rw [Bool.eq_iff_iff]
    simp
    omega

set_option maxHeartbeats 400000 in
theorem cmp_any (ao ao2 : Option Addr) (n cap m cap2 : Nat) (f g : Nat → Nat) (w : World) (h : Lm w ao n cap f) (h2 : Lm w ao2 m cap2 g) :
    Calls Oahg.prog 103 #[.slice ao n cap, .slice ao2 m cap2] w fun e w' => e = .returned (.int .i8 (cmpI (val f n) (val g m))) ∧ Below w.heap.size w w' := by
  go_enter Oahg.func103, Oahg.ntmps103
  go_wp2_with fail
  refine (trim_any ao n cap f _ h).mono ?_
  rintro e w1 ⟨⟨ao', n', cap', rfl, hT⟩, rfl⟩
  go_wp2_with fail
  refine (trim_any ao2 m cap2 g _ h2).mono ?_
  rintro e w1 ⟨⟨bo', m', cbp', rfl, hT2⟩, rfl⟩
  obtain ⟨hl, hz, htop, hle, hv⟩ := hT
  obtain ⟨hl2, hz2, htop2, hle2, hv2⟩ := hT2
  have hcap := hl.top
  have hfit := hl.fits
  have hcap2 := hl2.top
  have hfit2 := hl2.fits
  have hlim := hl.lim
  have hlim2 := hl2.lim
  have HE : Hid (cmpI (val f n) (val g m) = cmpI (val f n') (val g m')) := by unfold Hid; rw [hv, hv2]
  clear hv hv2 hle hle2 h h2 hz hz2
  by_cases hne : n' = m'
  · subst hne
    clear htop htop2
    go_wp2
    go_loopw [5] (fun t wr => ∃ k : Nat, k ≤ n' ∧ t = .int .i64 ((k : Int) - 1) ∧ Hid (∀ i, k ≤ i → i < n' → f i = g i) ∧ ∃ nq, wr = w1.drewN nq) (fun t _ => (intOf t + 1).toNat)
    case atStart => exact ⟨n', by omega, rfl, by unfold Hid; intro i h1 h2; omega, 0, rfl⟩
    case round =>
      obtain ⟨k, hk, rfl, HZ, nq, rfl⟩ := hrel
      by_cases h0 : k = 0
      · subst h0
        have HC : Hid (cmpI (val f n') (val g n') = 0) := cmpI_eq (val_congr f g n' (fun i hi => HZ.out i (by omega) hi))
        clear hlim hlim2 hl hl2
        go_wp2
        go_ret
        exact ⟨by rw [HE.out, HC.out]; rfl, by repeat (first | exact Below.refl _ _ | refine below_drewN ?_ _)⟩
      · obtain ⟨b, off, rfl, hlt, hc⟩ := hl.at (by omega)
        obtain ⟨b2, off2, rfl, hlt2, hc2⟩ := hl2.at (by omega)
        have c1 : w1.cell? ⟨b, off + (k - 1), none⟩ = some (.int .u32 (f (k - 1))) := hc _ (by omega)
        have c2 : w1.cell? ⟨b2, off2 + (k - 1), none⟩ = some (.int .u32 (g (k - 1))) := hc2 _ (by omega)
        have hk0 : (0 : Int) ≤ (k : Int) - 1 := by omega
        have hk1 : (k : Int) - 1 < (n' : Int) := by omega
        by_cases hlt : f (k - 1) < g (k - 1)
        · have HC : Hid (cmpI (val f n') (val g n') = -1) := cmpI_lt (val_lt_of f g n' (k - 1) (by omega) hlim (fun i h1 h2 => HZ.out i (by omega) h2) hlt)
          clear hlim hlim2 hl hl2 hc hc2
          go_wp2
          go_quiet (fail)
          go_wp2
          go_ret
          exact ⟨by rw [HE.out, HC.out]; rfl, by repeat (first | exact Below.refl _ _ | refine below_drewN ?_ _)⟩
        · by_cases hgt : g (k - 1) < f (k - 1)
          · have HC : Hid (cmpI (val f n') (val g n') = 1) := cmpI_gt (val_lt_of g f n' (k - 1) (by omega) hlim2 (fun i h1 h2 => (HZ.out i (by omega) h2).symm) hgt)
            clear hlim hlim2 hl hl2 hc hc2
            go_wp2
            go_quiet (fail)
            go_wp2
            go_quiet (fail)
            go_wp2
            go_ret
            exact ⟨by rw [HE.out, HC.out]; rfl, by repeat (first | exact Below.refl _ _ | refine below_drewN ?_ _)⟩
          · have he : f (k - 1) = g (k - 1) := by omega
            have HEq : Hid (f (k - 1) = g (k - 1)) := he
            clear hlim hlim2 hl hl2 hc hc2 he
            go_wp2
            go_quiet (fail)
            go_wp2
            go_quiet (fail)
            go_wp2
            go_roundw
            case rel =>
              refine ⟨k - 1, by omega, by go_num, ?_, _, rfl⟩
              unfold Hid; intro i h1 h2
              by_cases e : i = k - 1
              · rw [e]; exact HEq.out
              · exact HZ.out i (by omega) h2
            case measure => simp [intOf]; omega
  · have hne' : ((n' : Int) != (m' : Int)) = true := by rw [bne_iff_ne]; omega
    by_cases hlt : n' < m'
    · have HC : Hid (cmpI (val f n') (val g m') = -1) := cmpI_lt (val_lt_of_len f g n' m' hlt hlim (htop2 (by omega)))
      clear hlim hlim2 htop htop2 hl hl2
      go_wp2
      go_ret
      exact ⟨by rw [HE.out, HC.out]; rfl, Below.refl _ _⟩
    · have HC : Hid (cmpI (val f n') (val g m') = 1) := cmpI_gt (val_lt_of_len g f m' n' (by omega) hlim2 (htop (by omega)))
      clear hlim hlim2 htop htop2 hl hl2
      go_wp2
      go_ret
      exact ⟨by rw [HE.out, HC.out]; rfl, Below.refl _ _⟩

end Go.Proofs.Ygcoah
