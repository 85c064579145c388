/-
  THE WALKS OF PACKAGE nat, 7: Shr, for a count below 32 (all that our roads ask).
-/
import Derived.Test.YgcoahNat6
namespace Go.Proofs.Ygcoah
open Go.RowKit
attribute [local go_sem] eqNil neNil

/-- Limb j of the number shifted down by k bits. -/
def shrLimb (F : Nat → Nat) (k j : Nat) : Nat := (F j + F (j + 1) * 4294967296) / 2 ^ k % 4294967296

theorem shrLimb_lt (F : Nat → Nat) (k j : Nat) : shrLimb F k j < 4294967296 := Nat.mod_lt _ (by decide)

theorem shrLimb_eq (F : Nat → Nat) (k j : Nat) (hk : k < 32) (hF : F j < 4294967296) : shrLimb F k j = F j / 2 ^ k + F (j + 1) % 2 ^ k * 2 ^ (32 - k) := by
  unfold shrLimb
  have hp : 0 < 2 ^ k := Nat.pow_pos (by decide)
  have hB : (4294967296 : Nat) = 2 ^ (32 - k) * 2 ^ k := pow_split k hk
  have e1 : (F j + F (j + 1) * 4294967296) / 2 ^ k = F j / 2 ^ k + F (j + 1) * 2 ^ (32 - k) := by
    conv => lhs; rw [hB]
    rw [← Nat.mul_assoc, Nat.add_mul_div_right _ _ hp]
  rw [e1]
  have h1 : F j / 2 ^ k < 2 ^ (32 - k) := by
    rw [Nat.div_lt_iff_lt_mul hp, ← hB]; exact hF
  have h2 : F (j + 1) * 2 ^ (32 - k) = F (j + 1) / 2 ^ k * 4294967296 + F (j + 1) % 2 ^ k * 2 ^ (32 - k) := by
    conv => lhs; rw [← Nat.div_add_mod (F (j + 1)) (2 ^ k), Nat.add_mul]
    congr 1
    conv => rhs; rw [hB]
    rw [Nat.mul_comm (2 ^ k), Nat.mul_assoc, Nat.mul_comm (2 ^ k)]
  rw [h2]
  have h3 : F (j + 1) % 2 ^ k + 1 ≤ 2 ^ k := Nat.mod_lt _ hp
  have h4 := Nat.mul_le_mul_right (2 ^ (32 - k)) h3
  rw [Nat.mul_comm (2 ^ k), ← hB, Nat.add_mul] at h4
  generalize F (j + 1) / 2 ^ k = A at *
  generalize F j / 2 ^ k = X at *
  generalize F (j + 1) % 2 ^ k * 2 ^ (32 - k) = Y at *
  omega

theorem shr_sum (F : Nat → Nat) (k : Nat) (hk : k < 32) : ∀ i, (∀ j, j ≤ i → F j < 4294967296) → val (shrLimb F k) i + F i / 2 ^ k * 4294967296 ^ i = val F (i + 1) / 2 ^ k := by
  intro i
  have hp : 0 < 2 ^ k := Nat.pow_pos (by decide)
  have hB : (4294967296 : Nat) = 2 ^ (32 - k) * 2 ^ k := pow_split k hk
  induction i with
  | zero => intro _; simp [val]
  | succ i ih =>
    intro hF
    have h1 := ih (fun j hj => hF j (by omega))
    have h2 : val F (i + 1 + 1) / 2 ^ k = val F (i + 1) / 2 ^ k + F (i + 1) * 2 ^ (32 - k) * 4294967296 ^ i := by
      have e : val F (i + 1 + 1) = val F (i + 1) + F (i + 1) * 2 ^ (32 - k) * 4294967296 ^ i * 2 ^ k := by
        rw [val, Nat.pow_succ]
        congr 1
        conv => lhs; rw [Nat.mul_comm (4294967296 ^ i)]
        rw [show F (i + 1) * (4294967296 * 4294967296 ^ i) = F (i + 1) * (2 ^ (32 - k) * 2 ^ k * 4294967296 ^ i) by rw [← hB]]
        rw [Nat.mul_assoc (2 ^ (32 - k)), Nat.mul_comm (2 ^ k), ← Nat.mul_assoc, ← Nat.mul_assoc]
      rw [e, Nat.add_mul_div_right _ _ hp]
    rw [h2, ← h1]
    have h3 : val (shrLimb F k) (i + 1) = val (shrLimb F k) i + shrLimb F k i * 4294967296 ^ i := rfl
    rw [h3, shrLimb_eq F k i hk (hF i (by omega)), Nat.add_mul]
    have h4 : F (i + 1) % 2 ^ k * 2 ^ (32 - k) * 4294967296 ^ i + F (i + 1) / 2 ^ k * 4294967296 ^ (i + 1) = F (i + 1) * 2 ^ (32 - k) * 4294967296 ^ i := by
      rw [Nat.pow_succ, Nat.mul_comm (4294967296 ^ i), ← Nat.mul_assoc, ← Nat.add_mul]
      congr 1
      conv => rhs; rw [← Nat.div_add_mod (F (i + 1)) (2 ^ k), Nat.add_mul]
      rw [Nat.add_comm]
      congr 1
      conv => lhs; rw [hB]
      rw [Nat.mul_comm (2 ^ k), Nat.mul_assoc, Nat.mul_comm (2 ^ k)]
    omega

theorem shr_val (f : Nat → Nat) (n k : Nat) (hk : k < 32) (hf : ∀ i, i < n → f i < 4294967296) : val (shrLimb (ext0 f n) k) n = val f n / 2 ^ k := by
  have h := shr_sum (ext0 f n) k hk n (fun j _ => ext0_lim hf j)
  rw [ext0_ge (Nat.le_refl n), val_ext0 f n (n + 1) (by omega)] at h
  simpa using h

theorem or_join (x y : Nat) (hx : x < 4294967296) (hy : y < 4294967296) : bits .or .u64 (x : Int) ((y : Int) * 4294967296) = ((x + y * 4294967296 : Nat) : Int) := by
  have e : (y : Int) * 4294967296 = ((y * 4294967296 : Nat) : Int) := by omega
  rw [e, u64_or_nat _ _ (by omega) (by omega), Nat.or_comm, nat_join 32 _ _ (by omega) (by omega), Nat.add_comm]

theorem cast_shr (X b : Nat) : ((X : Nat) : Int) / 2 ^ b % 4294967296 = ((X / 2 ^ b % 4294967296 : Nat) : Int) := by
  have e : (2 : Int) ^ b = ((2 ^ b : Nat) : Int) := by rw [Int.natCast_pow]; rfl
  rw [e, ← Int.natCast_ediv]
  generalize X / 2 ^ b = Y
  omega

theorem shr_rel {c F : Nat → Nat} {b i : Nat} (h : ∀ j, j < i → c j = shrLimb F b j) {x : Nat} (hx : x = shrLimb F b i) : ∀ j, j < i + 1 → (fun j => if j = i then x else c j) j = shrLimb F b j := by
  intro j hj
  show (if j = i then x else c j) = _
  by_cases e : j = i
  · rw [if_pos e, hx, e]
  · rw [if_neg e]; exact h j (by omega)

set_option maxHeartbeats 800000 in
theorem shr_any (ao : Option Addr) (n cap k : Nat) (f : Nat → Nat) (w : World) (h : Lm w ao n cap f) (hn : n ≤ 100000000) (hk : k < 32) :
    Calls Oahg.prog 76 #[.slice ao n cap, .int .u16 k] w fun e w' => (∃ v lost, e = .returned (.tuple #[v, .bool lost]) ∧ NatV w' v (val f n / 2 ^ k)) ∧ Below w.heap.size w w' := by
  have q1 : (k : Int) / 32 = 0 := by omega
  obtain ⟨b, e2⟩ : ∃ b : Nat, b = k % 32 := ⟨_, rfl⟩
  have HK : Hid (k = b) := by unfold Hid; omega
  have hb32 : b < 32 := by omega
  have q2 : (k : Int) % 32 = (b : Int) := by omega
  clear e2
  go_enter Oahg.func76, Oahg.ntmps76
  go_wp2_with fail
  refine (trim_any ao n cap f _ h).mono ?_
  rintro e w1 ⟨⟨ao', n', cap', rfl, hT⟩, rfl⟩
  obtain ⟨hl, hz, htop, hle, hv⟩ := hT
  have hcap := hl.top
  have hfit := hl.fits
  have HE : Hid (val f n' = val f n) := by unfold Hid; rw [hv]
  by_cases h0 : n' = 0
  · obtain ⟨rfl, rfl⟩ := hz h0
    subst h0
    have HS : Hid (val f n / 2 ^ k = 0) := by unfold Hid; rw [← hv]; simp [val]
    clear hv hz htop hl h
    go_wp2
    go_rounds 1
    go_ret2
    refine ⟨⟨_, _, rfl, ?_⟩, Below.refl _ _⟩
    rw [HS.out]
    exact ⟨none, 0, 0, fun _ => 0, rfl, ⟨by omega, by omega, fun i hi => by omega, fun h => by omega⟩, fun _ => ⟨rfl, rfl⟩, fun h => by omega, rfl⟩
  · obtain ⟨b1, off, rfl, hlt, hc⟩ := hl.at (by omega)
    have hmk := make54 n' (by omega)
    have hc0 : w1.cell? ⟨b1, off, none⟩ = some (.int .u32 (f 0)) := hc 0 (by omega)
    have HC : Hid (∀ i, i < n' → w1.cell? ⟨b1, off + i, none⟩ = some (.int .u32 (f i))) := hc
    have i1 : (0 : Int) < (n' : Int) := by omega
    clear hv hz htop h hc
    go_wp2
    go_rounds 1
    go_quiet (fail)
    go_wp2
    go_loopw [62] (fun t wr => ∃ i : Nat, ∃ c : Nat → Nat, i ≤ n' ∧ t = .int .i64 i ∧ Row wr w1.heap.size n' c ∧ Hid (∀ j, j < n' → c j < 4294967296) ∧ Hid (∀ j, j < i → c j = shrLimb (ext0 f n') b j) ∧ Below w1.heap.size w1 wr) (fun t _ => n' - (intOf t).toNat)
    case atStart => exact ⟨0, fun _ => 0, by omega, rfl, (Row.made w1 _).drewN _, by unfold Hid; intro i _; show 0 < 4294967296; omega, by unfold Hid; intro j hj; omega, below_drewN ((Below.refl _ _).alloc (Nat.le_refl _) _) _⟩
    case round =>
      obtain ⟨i, c, hi, rfl, hr, HL, HV, hb⟩ := hrel
      by_cases hin : i < n'
      · have c1 : wr.cell? ⟨b1, off + i, none⟩ = some (.int .u32 (f i)) := (hb.cell (p := ⟨b1, off + i, none⟩) hlt).trans (HC.out i hin)
        have f1 : f i < 4294967296 := hl.lim i hin
        have c2 : wr.cell? ⟨w1.heap.size, i, none⟩ = some (.int .u32 (c i)) := hr.cell (by omega)
        have f2 := hr.frozen i
        by_cases hin2 : i + 1 < n'
        · have c3 : wr.cell? ⟨b1, off + (i + 1), none⟩ = some (.int .u32 (f (i + 1))) := (hb.cell (p := ⟨b1, off + (i + 1), none⟩) hlt).trans (HC.out (i + 1) hin2)
          have f3 : f (i + 1) < 4294967296 := hl.lim _ hin2
          clear hmk
          go_wp2
          go_roundw
          case rel =>
            refine ⟨i + 1, _, by omega, by go_num, hr.setI i ((f i + f (i + 1) * 4294967296) / 2 ^ b % 4294967296) ?_, add_lim HL.out (Nat.mod_lt _ (by decide)), shr_rel HV.out ?_, hb.setCell (Nat.le_refl _) _⟩
            · rw [or_join _ _ f1 f3]; exact cast_shr _ _
            · unfold shrLimb; rw [ext0_lt hin, ext0_lt hin2]
          case measure => simp [intOf]; omega
        · clear hmk
          go_wp2
          go_roundw
          case rel =>
            refine ⟨i + 1, _, by omega, by go_num, hr.setI i (f i / 2 ^ b % 4294967296) (cast_shr _ _), add_lim HL.out (Nat.mod_lt _ (by decide)), shr_rel HV.out ?_, hb.setCell (Nat.le_refl _) _⟩
            unfold shrLimb; rw [ext0_lt hin, ext0_ge (show n' ≤ i + 1 by omega)]; simp
          case measure => simp [intOf]; omega
      · have e : i = n' := by omega
        subst e
        have hlm := hr.lm (by omega) HL.out
        have HVV : Hid (val c i = val f n / 2 ^ k) := by
          unfold Hid; rw [val_congr c _ i HV.out, shr_val f i b hb32 hl.lim, HE.out, HK.out]
        clear hmk
        go_wp2_with fail
        refine (trim_any _ _ _ c _ hlm).mono ?_
        rintro e w3 ⟨⟨ao3, n3, cap3, rfl, hT⟩, rfl⟩
        have hN := hT.natV
        rw [HVV.out] at hN
        clear hT hlm
        go_wp2
        go_ret2
        exact ⟨⟨_, _, rfl, hN⟩, hb⟩
end Go.Proofs.Ygcoah
