/-
  THE WALKS OF PACKAGE nat, 6: lift, Shl.
-/
import Derived.Test.YgcoahNat5
namespace Go.Proofs.Ygcoah
open Go.RowKit
attribute [local go_sem] eqNil neNil

theorem pow_split (b : Nat) (hb : b < 32) : (4294967296 : Nat) = 2 ^ (32 - b) * 2 ^ b := by
  rw [← Nat.pow_add, show 32 - b + b = 32 by omega]

theorem lift_lt (x b : Nat) (hx : x < 4294967296) (hb : b < 32) : x * 2 ^ b < 9223372036854775808 := by
  have h1 : 2 ^ b ≤ 2 ^ 31 := Nat.pow_le_pow_right (by decide) (by omega)
  have h2 := Nat.mul_le_mul (show x ≤ 4294967295 by omega) h1
  omega

theorem lift_word (x b : Nat) (hx : x < 4294967296) (hb : b < 32) : IntKind.u64.wrap ((x : Int) * 2 ^ b) = ((x * 2 ^ b : Nat) : Int) := by
  have h := lift_lt x b hx hb
  rw [IntKind.wrap_u64]
  have e : ((x * 2 ^ b : Nat) : Int) = (x : Int) * 2 ^ b := by rw [Int.natCast_mul, Int.natCast_pow]; rfl
  rw [← e]
  omega

theorem lift_low (x b : Nat) (hb : b < 32) : x * 2 ^ b % 4294967296 = x % 2 ^ (32 - b) * 2 ^ b := by
  conv => lhs; rw [pow_split b hb]
  rw [Nat.mul_mod_mul_right]

theorem lift_sum (c x b : Nat) (hb : b < 32) (hc : c < 2 ^ b) : c + x * 2 ^ b % 4294967296 < 4294967296 := by
  rw [lift_low x b hb]
  have h1 : x % 2 ^ (32 - b) + 1 ≤ 2 ^ (32 - b) := Nat.mod_lt _ (Nat.pow_pos (by decide))
  have h2 := Nat.mul_le_mul_right (2 ^ b) h1
  rw [← pow_split b hb, Nat.add_mul] at h2
  omega

theorem lift_or (c x b : Nat) (hb : b < 32) (hc : c < 2 ^ b) : bits .or .u32 (c : Int) (((x * 2 ^ b : Nat) : Int) % 4294967296) = ((c + x * 2 ^ b % 4294967296 : Nat) : Int) := by
  have h1 := lift_sum c x b hb hc
  have e : ((x * 2 ^ b : Nat) : Int) % 4294967296 = ((x * 2 ^ b % 4294967296 : Nat) : Int) := by omega
  rw [e, u32_or_nat _ _ (by omega) (by omega), Nat.or_comm, nat_join b _ _ ?_ hc, Nat.add_comm]
  rw [lift_low x b hb]
  exact Nat.mul_mod_left _ _

theorem lift_hi (x b : Nat) (hx : x < 4294967296) : x * 2 ^ b / 4294967296 < 2 ^ b := by
  rw [Nat.div_lt_iff_lt_mul (by decide), Nat.mul_comm (2 ^ b)]
  exact Nat.mul_lt_mul_of_pos_right hx (Nat.pow_pos (by decide))

theorem lift_step {c f : Nat → Nat} {N i l b : Nat} (h : val c N = val f i * 2 ^ b * 4294967296 ^ l) (hN : i + l + 1 < N) (hz : c (i + l + 1) = 0) :
    val (fun j => if j = i + l + 1 then f i * 2 ^ b / 4294967296 else (fun j => if j = i + l then c (i + l) + f i * 2 ^ b % 4294967296 else c j) j) N = val f (i + 1) * 2 ^ b * 4294967296 ^ l := by
  have h1 := val_set c N (i + l) (c (i + l) + f i * 2 ^ b % 4294967296) (by omega)
  have h2 := val_set (fun j => if j = i + l then c (i + l) + f i * 2 ^ b % 4294967296 else c j) N (i + l + 1) (f i * 2 ^ b / 4294967296) hN
  rw [if_neg (show ¬ i + l + 1 = i + l by omega), hz, pow_shift (f i * 2 ^ b / 4294967296) i l] at h2
  show val (fun j => if j = i + l + 1 then f i * 2 ^ b / 4294967296 else if j = i + l then c (i + l) + f i * 2 ^ b % 4294967296 else c j) N = _
  have h5 : val f (i + 1) = val f i + f i * 4294967296 ^ i := rfl
  have h6 : val f (i + 1) * 2 ^ b * 4294967296 ^ l = val f i * 2 ^ b * 4294967296 ^ l + f i * 2 ^ b * 4294967296 ^ (i + l) := by
    rw [h5, Nat.add_mul, Nat.add_mul, Nat.pow_add]
    congr 1
    rw [Nat.mul_assoc (f i), Nat.mul_comm (4294967296 ^ i), ← Nat.mul_assoc, Nat.mul_assoc]
  have h7 : f i * 2 ^ b / 4294967296 * 4294967296 * 4294967296 ^ (i + l) + f i * 2 ^ b % 4294967296 * 4294967296 ^ (i + l) = f i * 2 ^ b * 4294967296 ^ (i + l) := by
    rw [← Nat.add_mul]; congr 1; omega
  rw [Nat.add_mul] at h1
  rw [h6]
  omega

theorem lift_val (x l b k : Nat) (hk : k = 32 * l + b) : x * 2 ^ b * 4294967296 ^ l = x * 2 ^ k := by
  rw [hk, base_pow, Nat.pow_add, Nat.mul_assoc, Nat.mul_comm (2 ^ b)]

set_option maxHeartbeats 800000 in
theorem lift_any (ao : Option Addr) (n cap k : Nat) (f : Nat → Nat) (w : World) (h : Lm w ao n cap f) (hn : n ≤ 100000000) (hk : k ≤ 100000000) :
    Calls Oahg.prog 122 #[.slice ao n cap, .int .i64 k] w fun e w' => (∃ v, e = .returned v ∧ NatV w' v (val f n * 2 ^ k)) ∧ Below w.heap.size w w' := by
  obtain ⟨l, e1⟩ : ∃ l : Nat, l = k / 32 := ⟨_, rfl⟩
  obtain ⟨b, e2⟩ : ∃ b : Nat, b = k % 32 := ⟨_, rfl⟩
  have HK : Hid (k = 32 * l + b) := by unfold Hid; omega
  have hb32 : b < 32 := by omega
  have hl0 : l ≤ 100000000 := by omega
  have q1 : (k : Int) / 32 = (l : Int) := by omega
  have q2 : (k : Int) % 32 = (b : Int) := by omega
  clear e1 e2
  go_enter Oahg.func122, Oahg.ntmps122
  go_wp2_with fail
  refine (trim_any ao n cap f _ h).mono ?_
  rintro e w1 ⟨⟨ao', n', cap', rfl, hT⟩, rfl⟩
  obtain ⟨hl, hz, htop, hle, hv⟩ := hT
  have hcap := hl.top
  have hfit := hl.fits
  have HE : Hid (val f n' = val f n) := by unfold Hid; rw [hv]
  by_cases h0 : n' = 0
  · obtain ⟨rfl, rfl⟩ := hz h0
    subst h0
    have HS : Hid (val f n * 2 ^ k = 0) := by unfold Hid; rw [← hv]; simp [val]
    clear hv hz htop hl h
    go_wp2
    go_ret
    refine ⟨⟨_, rfl, ?_⟩, Below.refl _ _⟩
    rw [HS.out]
    exact ⟨none, 0, 0, fun _ => 0, rfl, ⟨by omega, by omega, fun i hi => by omega, fun h => by omega⟩, fun _ => ⟨rfl, rfl⟩, fun h => by omega, rfl⟩
  · obtain ⟨b1, off, rfl, hlt, hc⟩ := hl.at (by omega)
    have hmk := make54 (n' + l + 1) (by omega)
    rw [show ((n' + l + 1 : Nat) : Int) = (n' : Int) + (l : Int) + 1 from by omega] at hmk
    have HC : Hid (∀ i, i < n' → w1.cell? ⟨b1, off + i, none⟩ = some (.int .u32 (f i))) := hc
    clear hv hz htop h hc
    go_wp2
    go_loopw [27] (fun t wr => ∃ i : Nat, ∃ c : Nat → Nat, i ≤ n' ∧ t = .int .i64 i ∧ Row wr w1.heap.size (n' + l + 1) c ∧ Hid (∀ j, j < n' + l + 1 → c j < 4294967296) ∧ Hid (c (i + l) < 2 ^ b) ∧ Hid (∀ j, i + l < j → j < n' + l + 1 → c j = 0) ∧ Hid (val c (n' + l + 1) = val f i * 2 ^ b * 4294967296 ^ l) ∧ Below w1.heap.size w1 wr) (fun t _ => n' - (intOf t).toNat)
    case atStart => exact ⟨0, fun _ => 0, by omega, rfl, Row.made w1 _, by unfold Hid; intro i _; show 0 < 4294967296; omega, by unfold Hid; exact Nat.pow_pos (by decide), by unfold Hid; intros; rfl, by unfold Hid; rw [val_zeros _ 0 _ (by omega) (fun _ _ _ => rfl)]; simp [val], (Below.refl _ _).alloc (Nat.le_refl _) _⟩
    case round =>
      obtain ⟨i, c, hi, rfl, hr, HL, HB, HZ, HV, hb⟩ := hrel
      by_cases hin : i < n'
      · have c1 : wr.cell? ⟨b1, off + i, none⟩ = some (.int .u32 (f i)) := (hb.cell (p := ⟨b1, off + i, none⟩) hlt).trans (HC.out i hin)
        have f1 : f i < 4294967296 := hl.lim i hin
        have c2 : wr.cell? ⟨w1.heap.size, i + l, none⟩ = some (.int .u32 (c (i + l))) := hr.cell (by omega)
        have f2 := hr.frozen (i + l)
        have c3 : wr.cell? ⟨w1.heap.size, i + l + 1, none⟩ = some (.int .u32 (c (i + l + 1))) := hr.cell (by omega)
        have f3 := hr.frozen (i + l + 1)
        have f4 := HL.out (i + l) (by omega)
        clear hmk
        go_wp2
        have HF1 : Hid (f i < 4294967296) := f1
        go_roundw
        case rel =>
          have e1 := lift_word (f i) b f1 hb32
          have e2 := lift_or (c (i + l)) (f i) b hb32 HB.out
          have e3 := lift_hi (f i) b f1
          have e4 : 2 ^ b ≤ 2 ^ 31 := Nat.pow_le_pow_right (by decide) (by omega)
          refine ⟨i + 1, _, by omega, by go_num, (hr.setI (i + l) (c (i + l) + f i * 2 ^ b % 4294967296) ?_).setI (i + l + 1) (f i * 2 ^ b / 4294967296) ?_, ?_, ?_, ?_, ?_, (hb.setCell (Nat.le_refl _) _).setCell (Nat.le_refl _) _⟩
          · rw [e1]; exact e2
          · rw [e1]; omega
          · exact add_lim (add_lim HL.out (lift_sum _ _ _ hb32 HB.out)) (by omega)
          · unfold Hid
            show (if i + 1 + l = i + l + 1 then _ else _) < _
            rw [if_pos (by omega)]
            exact e3
          · unfold Hid
            intro j h1 h2
            show (if j = i + l + 1 then _ else if j = i + l then _ else c j) = 0
            rw [if_neg (by omega), if_neg (by omega)]
            exact HZ.out j (by omega) h2
          · exact lift_step HV.out (by omega) (HZ.out _ (by omega) (by omega))
        case measure => simp [intOf]; omega
      · have e : i = n' := by omega
        subst e
        have hlm := hr.lm (by omega) HL.out
        have HVV : Hid (val c (i + l + 1) = val f n * 2 ^ k) := by
          unfold Hid; rw [HV.out, HE.out]; exact lift_val _ _ _ _ HK.out
        clear hmk
        go_wp2_with fail
        refine (trim_any _ _ _ c _ hlm).mono ?_
        rintro e w3 ⟨⟨ao3, n3, cap3, rfl, hT⟩, rfl⟩
        have hN := hT.natV
        rw [HVV.out] at hN
        clear hT hlm
        go_wp2
        go_ret
        exact ⟨⟨_, rfl, hN⟩, hb⟩

set_option maxHeartbeats 400000 in
theorem shl_any (ao : Option Addr) (n cap k : Nat) (f : Nat → Nat) (w : World) (h : Lm w ao n cap f) (hn : n ≤ 100000000) (hk : k < 65536) :
    Calls Oahg.prog 74 #[.slice ao n cap, .int .u16 k] w fun e w' => (∃ v, e = .returned v ∧ NatV w' v (val f n * 2 ^ k)) ∧ Below w.heap.size w w' := by
  go_enter Oahg.func74, Oahg.ntmps74
  go_wp2_with fail
  refine (lift_any ao n cap k f _ h hn (by omega)).mono ?_
  rintro e w1 ⟨⟨v, rfl, hN⟩, hb⟩
  go_wp2
  go_ret
  exact ⟨⟨_, rfl, hN⟩, hb⟩
end Go.Proofs.Ygcoah
