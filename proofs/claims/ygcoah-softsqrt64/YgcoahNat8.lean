/-
  THE WALKS OF PACKAGE nat, 8: divLimb.
-/
import Derived.Test.YgcoahNat7
namespace Go.Proofs.Ygcoah
open Go.RowKit

theorem dl_step {c f : Nat → Nat} {n k r d V s : Nat} (h : V = val f (k + 1) + val c n * d + r * 4294967296 ^ (k + 1)) (hs : s = f k + r * 4294967296) (hk : k < n) (hz : c k = 0) :
    V = val f k + val (fun j => if j = k then s / d else c j) n * d + s % d * 4294967296 ^ k := by
  have h1 := val_set c n k (s / d) hk
  rw [hz] at h1
  have h2 : val f (k + 1) = val f k + f k * 4294967296 ^ k := rfl
  have h3 : val (fun j => if j = k then s / d else c j) n = val c n + s / d * 4294967296 ^ k := by omega
  rw [h3, Nat.add_mul]
  have h4 : s / d * 4294967296 ^ k * d + s % d * 4294967296 ^ k = s * 4294967296 ^ k := by
    rw [Nat.mul_assoc, Nat.mul_comm (4294967296 ^ k), ← Nat.mul_assoc, ← Nat.add_mul]
    congr 1
    rw [Nat.mul_comm]; exact Nat.div_add_mod s d
  have h5 : s * 4294967296 ^ k = f k * 4294967296 ^ k + r * 4294967296 ^ (k + 1) := by
    rw [hs, Nat.add_mul, Nat.pow_succ, Nat.mul_assoc r, Nat.mul_comm 4294967296]
  omega

theorem or_join' (x y : Nat) (hx : x < 4294967296) (hy : y < 4294967296) : bits .or .u64 ((y : Int) * 4294967296) (x : Int) = ((x + y * 4294967296 : Nat) : Int) := by
  have e : (y : Int) * 4294967296 = ((y * 4294967296 : Nat) : Int) := by omega
  rw [e, u64_or_nat _ _ (by omega) (by omega), nat_join 32 _ _ (by omega) (by omega), Nat.add_comm]

theorem cast_quo (s d : Nat) (h : s / d < 4294967296) : IntKind.u64.wrap ((s : Int) / (d : Int)) % 4294967296 = ((s / d : Nat) : Int) := by
  rw [← Int.natCast_ediv, IntKind.wrap_u64]
  generalize s / d = q at *
  omega

theorem dl_lt {x r d : Nat} (hx : x < 4294967296) (hr : r < d) : (x + r * 4294967296) / d < 4294967296 := by
  rw [Nat.div_lt_iff_lt_mul (by omega), Nat.mul_comm]
  have := Nat.mul_le_mul_right 4294967296 (show r + 1 ≤ d by omega)
  omega

set_option maxHeartbeats 800000 in
theorem divLimb_any (ao : Option Addr) (n cap d : Nat) (f : Nat → Nat) (w : World) (h : Lm w ao n cap f) (hn : n ≤ 100000000) (hd0 : 0 < d) (hd : d < 4294967296) :
    Calls Oahg.prog 120 #[.slice ao n cap, .int .u32 d] w fun e w' => (∃ v, e = .returned (.tuple #[v, .int .u32 (val f n % d : Nat)]) ∧ NatV w' v (val f n / d)) ∧ Below w.heap.size w w' := by
  have hcap := h.top
  have hfit := h.fits
  have hmk := make54 n (by omega)
  have hd1 : (1 : Int) ≤ (d : Int) := by omega
  have hdne : ((d : Int) == 0) = false := by rw [beq_eq_false_iff_ne]; omega
  go_enter Oahg.func120, Oahg.ntmps120
  go_wp2
  go_loopw [7, 8] (fun cy t wr => ∃ k r : Nat, ∃ c : Nat → Nat, k ≤ n ∧ t = .int .i64 ((k : Int) - 1) ∧ cy = .int .u64 r ∧ r < d ∧ Row wr w.heap.size n c ∧ Hid (∀ j, j < n → c j < 4294967296) ∧ Hid (∀ j, j < k → c j = 0) ∧ Hid (val f n = val f k + val c n * d + r * 4294967296 ^ k) ∧ Below w.heap.size w wr) (fun _ t _ => (intOf t + 1).toNat)
  case atStart => exact ⟨n, 0, fun _ => 0, by omega, rfl, rfl, by omega, (Row.made w _), by unfold Hid; intro i _; show 0 < 4294967296; omega, by unfold Hid; intros; rfl, by unfold Hid; rw [val_zeros (fun _ => 0) 0 n (by omega) (fun _ _ _ => rfl)]; simp [val], ((Below.refl _ _).alloc (Nat.le_refl _) _)⟩
  case round =>
    obtain ⟨k, r, c, hk, rfl, rfl, hr0, hr, HL, HZ, HV, hb⟩ := hrel
    by_cases hk0 : k = 0
    · subst hk0
      have hlm := hr.lm (by omega) HL.out
      have HVV : Hid (val c n = val f n / d ∧ r = val f n % d) := by
        have h1 := HV.out
        unfold Hid
        have h2 : val f n = r + d * val c n := by rw [h1, Nat.mul_comm d]; simp [val]; omega
        rw [h2]
        exact ⟨by rw [Nat.add_mul_div_left _ _ hd0, Nat.div_eq_of_lt hr0]; omega, by rw [Nat.add_mul_mod_self_left, Nat.mod_eq_of_lt hr0]⟩
      clear hmk
      go_wp2_with fail
      refine (trim_any _ _ _ c _ hlm).mono ?_
      rintro e w3 ⟨⟨ao3, n3, cap3, rfl, hT⟩, rfl⟩
      have hN := hT.natV
      rw [HVV.out.1] at hN
      clear hT hlm
      go_wp2
      go_ret2
      exact ⟨⟨_, by rw [← HVV.out.2]; rfl, hN⟩, hb⟩
    · obtain ⟨i, rfl⟩ : ∃ i, k = i + 1 := ⟨k - 1, by omega⟩
      obtain ⟨b1, off, rfl, hlt, hc⟩ := h.at (by omega)
      have c1 : wr.cell? ⟨b1, off + i, none⟩ = some (.int .u32 (f i)) := (hb.cell (p := ⟨b1, off + i, none⟩) hlt).trans (hc i (by omega))
      have f1 : f i < 4294967296 := h.lim i (by omega)
      have c2 : wr.cell? ⟨w.heap.size, i, none⟩ = some (.int .u32 (c i)) := hr.cell (by omega)
      have f2 := hr.frozen i
      have hor : bits .or .u64 ((r : Int) * 4294967296) (f i : Int) = ((f i + r * 4294967296 : Nat) : Int) := by
        exact or_join' _ _ f1 (by omega)
      obtain ⟨s, es⟩ : ∃ s, s = f i + r * 4294967296 := ⟨_, rfl⟩
      rw [← es] at hor
      have ES : Hid (s = f i + r * 4294967296) := es
      have hs : s < 18446744073709551616 := by omega
      have hsd : s / d < 4294967296 := by rw [es]; exact dl_lt f1 hr0
      have hsm : s % d < d := Nat.mod_lt _ hd0
      clear hc hmk es
      go_wp2
      go_roundw
      case rel =>
        refine ⟨i, s % d, _, by omega, rfl, rfl, hsm, hr.setI i (s / d) (cast_quo _ _ hsd), add_lim HL.out hsd, ?_, ?_, hb.setCell (Nat.le_refl _) _⟩
        · unfold Hid
          intro j hj
          show (if j = i then _ else c j) = 0
          rw [if_neg (by omega)]
          exact HZ.out j (by omega)
        · exact dl_step HV.out ES.out (by omega) (HZ.out i (by omega))
      case measure => simp [intOf]
end Go.Proofs.Ygcoah
