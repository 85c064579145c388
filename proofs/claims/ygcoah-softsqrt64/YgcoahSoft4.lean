/-
  THE WALKS OF PACKAGE soft, 4: roundPack whole; jam, top.
-/
import Derived.Test.YgcoahSoft3a
import Derived.Test.YgcoahSoft3b
import Derived.Test.YgcoahSoft3c
import Derived.Test.YgcoahSoft3d
import Derived.Test.YgcoahWide7
namespace Go.Proofs.Ygcoah
open Go.RowKit

theorem roundPack_any (E M mode : Nat) (neg : Bool) (exp : Int) (sig : Nat) (w : World) (h : FOk E M) (h0 : 0 < sig) (hs : sig < 18446744073709551616) (hx1 : -5000 ≤ exp) (hx2 : exp ≤ 5000) :
    Calls Oahg.prog 58 #[.agg #[.int .u8 E, .int .u8 M], .int .u8 mode, .bool neg, .int .i16 exp, .int .u64 sig] w fun r w' => (∃ fl : Int, r = .returned (.tuple #[.int .u64 (softR E M mode neg exp sig), .int .u8 fl])) ∧ Below w.heap.size w w' := by
  by_cases c1 : eminI E < exp - ((64 - bl sig : Nat) : Int) + 63
  · exact roundPack_norm E M mode neg exp sig w h h0 hs hx1 hx2 c1
  · by_cases c2 : eminI E = exp - ((64 - bl sig : Nat) : Int) + 63
    · exact roundPack_least E M mode neg exp sig w h h0 hs hx1 hx2 c2
    · by_cases c3 : exp - ((64 - bl sig : Nat) : Int) + 63 = eminI E - 1
      · exact roundPack_below E M mode neg exp sig w h h0 hs hx1 hx2 c3
      · exact roundPack_deep E M mode neg exp sig w h h0 hs hx1 hx2 (by omega)

/-- The 64 leading bits of n, the lowest also set for any 1 bit below them. -/
def jamP (n : Nat) : Nat := if n * 2 ^ (128 - bl n) % 18446744073709551616 = 0 then n * 2 ^ (128 - bl n) / 18446744073709551616 else (n * 2 ^ (128 - bl n) / 18446744073709551616) ||| 1

theorem norm_128 (n : Nat) (h0 : 0 < n) (h : n < 340282366920938463463374607431768211456) : n * 2 ^ (128 - bl n) < 340282366920938463463374607431768211456 := by
  obtain ⟨h1, h2⟩ := bl_bounds n h0
  have hb : bl n ≤ 128 := (bl_le_iff _ _).2 h
  have p2 : 2 ^ bl n * 2 ^ (128 - bl n) = 340282366920938463463374607431768211456 := by rw [← Nat.pow_add, show bl n + (128 - bl n) = 128 by omega]
  have := Nat.mul_lt_mul_of_pos_right h2 (pow_pos2 (128 - bl n))
  omega

theorem bl_hi (n : Nat) (h : 0 < hiW n) : bl n = 64 + bl (hiW n) := by
  have e : n = loW n + hiW n * 2 ^ 64 := by
    have := hi_lo n
    have p : (2 : Nat) ^ 64 = 18446744073709551616 := by decide
    rw [p]; omega
  conv => lhs; rw [e]
  exact bl_shift (loW n) (hiW n) 64 h (loW_lt n)

set_option maxHeartbeats 800000 in
theorem jam_any (n : Nat) (exp : Int) (w : World) (h0 : 0 < n) (h : n < 340282366920938463463374607431768211456) (hx1 : -5000 ≤ exp) (hx2 : exp ≤ 5000) :
    Calls Oahg.prog 83 #[.agg #[.int .u64 (hiW n), .int .u64 (loW n)], .int .i16 exp] w fun r w' => r = .returned (.tuple #[.int .u64 (jamP n), .int .i16 (exp - 64 + (bl n : Int))]) ∧ Below w.heap.size w w' := by
  have hb : bl n ≤ 128 := (bl_le_iff _ _).2 h
  have hnn := norm_128 n h0 h
  have hsh := fun w' => wshl_any n (128 - bl n) w' (by omega) hnn
  have hS := hiW_lt hnn
  have HJ : Hid (jamP n = if loW (n * 2 ^ (128 - bl n)) = 0 then hiW (n * 2 ^ (128 - bl n)) else hiW (n * 2 ^ (128 - bl n)) ||| 1) := rfl
  obtain ⟨ld, eld⟩ : ∃ ld, ld = 128 - bl n := ⟨_, rfl⟩
  rw [← eld] at hsh hS HJ
  generalize n * 2 ^ ld = S at *
  have hee : exp + 64 - (ld : Int) = exp - 64 + (bl n : Int) := by omega
  have HE : Hid (exp + 64 - (ld : Int) = exp - 64 + (bl n : Int)) := hee
  have hhl := hi_lo n
  have hll := loW_lt n
  have hh64 := hiW_lt h
  have hor : bits .or .u64 (hiW S : Int) 1 = ((hiW S ||| 1 : Nat) : Int) := u64_or_nat (hiW S) 1 hS (by decide)
  by_cases c : hiW n = 0
  · have hbl : bl n = bl (loW n) := by congr 1; omega
    have hl0 : 0 < loW n := by omega
    have hcl := fun w' => clz_any (loW n) w' hl0 hll
    have hbb : bl (loW n) ≤ 64 := (bl_le_iff _ _).2 hll
    obtain ⟨l2, el2⟩ : ∃ l2, l2 = 64 - bl (loW n) := ⟨_, rfl⟩
    rw [← el2] at hcl
    have hl64 : 64 + (l2 : Int) = (ld : Int) := by omega
    have hl2 : l2 ≤ 64 := by omega
    have ec : ((0 : Nat) : Int) = 0 := rfl
    rw [c, ec] at hsh ⊢
    have hcz := fun w' => clz_zero w'
    by_cases c2 : loW S = 0
    · have HV : Hid (jamP n = hiW S) := by unfold Hid; rw [HJ.out, if_pos c2]
      rw [c2] at hsh
      clear HJ hee hor hnn eld el2 hhl hbl c h0 h hll hh64 hl0 ec c2
      go_enter Oahg.func83, Oahg.ntmps83
      go_wp2_with fail
      refine (hcz _).mono ?_
      rintro e wa ⟨rfl, rfl⟩
      go_wp2_with fail
      refine (hcl _).mono ?_
      rintro e wa ⟨rfl, rfl⟩
      go_wp2_with fail
      refine (hsh _).mono ?_
      rintro e wc ⟨rfl, hbc⟩
      have r0 : wc.cell? ⟨w.heap.size, 0, none⟩ = some (.int .u64 0) := cell_later hbc (by simp [go_sem])
      have r1 : wc.cell? ⟨w.heap.size, 1, none⟩ = some (.int .u64 (loW n)) := cell_later hbc (by simp [go_sem])
      have q0 : wc.frozen? ⟨w.heap.size, 0, none⟩ = false := by rw [hbc.frozen (p := ⟨w.heap.size, 0, none⟩) (by simp)]; simp [go_sem]
      have q1 : wc.frozen? ⟨w.heap.size, 1, none⟩ = false := by rw [hbc.frozen (p := ⟨w.heap.size, 1, none⟩) (by simp)]; simp [go_sem]
      have hB : Below w.heap.size w wc := ((Below.refl _ _).alloc (Nat.le_refl _) _).trans (hbc.mono (by simp))
      go_wp2
      go_ret2
      exact ⟨ret_two' (by rw [HV.out]) HE.out, (hB.setCell (Nat.le_refl _) _).setCell (Nat.le_refl _) _⟩
    · have HV : Hid (jamP n = hiW S ||| 1) := by unfold Hid; rw [HJ.out, if_neg c2]
      have b2 : ((loW S : Int) != 0) = true := by rw [bne_iff_ne]; omega
      generalize hiW S ||| 1 = H1 at *
      clear HJ hee hnn eld el2 hhl hbl c h0 h hll hh64 hl0 ec c2
      go_enter Oahg.func83, Oahg.ntmps83
      go_wp2_with fail
      refine (hcz _).mono ?_
      rintro e wa ⟨rfl, rfl⟩
      go_wp2_with fail
      refine (hcl _).mono ?_
      rintro e wa ⟨rfl, rfl⟩
      go_wp2_with fail
      refine (hsh _).mono ?_
      rintro e wc ⟨rfl, hbc⟩
      have r0 : wc.cell? ⟨w.heap.size, 0, none⟩ = some (.int .u64 0) := cell_later hbc (by simp [go_sem])
      have r1 : wc.cell? ⟨w.heap.size, 1, none⟩ = some (.int .u64 (loW n)) := cell_later hbc (by simp [go_sem])
      have q0 : wc.frozen? ⟨w.heap.size, 0, none⟩ = false := by rw [hbc.frozen (p := ⟨w.heap.size, 0, none⟩) (by simp)]; simp [go_sem]
      have q1 : wc.frozen? ⟨w.heap.size, 1, none⟩ = false := by rw [hbc.frozen (p := ⟨w.heap.size, 1, none⟩) (by simp)]; simp [go_sem]
      have hB : Below w.heap.size w wc := ((Below.refl _ _).alloc (Nat.le_refl _) _).trans (hbc.mono (by simp))
      go_wp2
      go_ret2
      exact ⟨ret_two' (by rw [HV.out]) HE.out, ((hB.setCell (Nat.le_refl _) _).setCell (Nat.le_refl _) _).setCell (Nat.le_refl _) _⟩
  · have hp : 0 < hiW n := by omega
    have hbl := bl_hi n hp
    have hcl := fun w' => clz_any (hiW n) w' hp hh64
    have hbb : bl (hiW n) ≤ 64 := (bl_le_iff _ _).2 hh64
    have hbb0 := bl_pos (hiW n) hp
    have el2 : 64 - bl (hiW n) = ld := by omega
    rw [el2] at hcl
    have hl2 : ld ≤ 64 := by omega
    have b0 : ((hiW n : Int) == 0) = false := by rw [beq_eq_false_iff_ne]; omega
    by_cases c2 : loW S = 0
    · have HV : Hid (jamP n = hiW S) := by unfold Hid; rw [HJ.out, if_pos c2]
      rw [c2] at hsh
      clear HJ hee hor hnn eld el2 hhl hbl c h0 h hll hh64 hp c2
      go_enter Oahg.func83, Oahg.ntmps83
      go_wp2_with fail
      refine (hcl _).mono ?_
      rintro e wa ⟨rfl, rfl⟩
      go_wp2_with fail
      refine (hsh _).mono ?_
      rintro e wc ⟨rfl, hbc⟩
      have r0 : wc.cell? ⟨w.heap.size, 0, none⟩ = some (.int .u64 (hiW n)) := cell_later hbc (by simp [go_sem])
      have r1 : wc.cell? ⟨w.heap.size, 1, none⟩ = some (.int .u64 (loW n)) := cell_later hbc (by simp [go_sem])
      have q0 : wc.frozen? ⟨w.heap.size, 0, none⟩ = false := by rw [hbc.frozen (p := ⟨w.heap.size, 0, none⟩) (by simp)]; simp [go_sem]
      have q1 : wc.frozen? ⟨w.heap.size, 1, none⟩ = false := by rw [hbc.frozen (p := ⟨w.heap.size, 1, none⟩) (by simp)]; simp [go_sem]
      have hB : Below w.heap.size w wc := ((Below.refl _ _).alloc (Nat.le_refl _) _).trans (hbc.mono (by simp))
      go_wp2
      go_ret2
      exact ⟨ret_two' (by rw [HV.out]) HE.out, (hB.setCell (Nat.le_refl _) _).setCell (Nat.le_refl _) _⟩
    · have HV : Hid (jamP n = hiW S ||| 1) := by unfold Hid; rw [HJ.out, if_neg c2]
      have b2 : ((loW S : Int) != 0) = true := by rw [bne_iff_ne]; omega
      generalize hiW S ||| 1 = H1 at *
      clear HJ hee hnn eld el2 hhl hbl c h0 h hll hh64 hp c2
      go_enter Oahg.func83, Oahg.ntmps83
      go_wp2_with fail
      refine (hcl _).mono ?_
      rintro e wa ⟨rfl, rfl⟩
      go_wp2_with fail
      refine (hsh _).mono ?_
      rintro e wc ⟨rfl, hbc⟩
      have r0 : wc.cell? ⟨w.heap.size, 0, none⟩ = some (.int .u64 (hiW n)) := cell_later hbc (by simp [go_sem])
      have r1 : wc.cell? ⟨w.heap.size, 1, none⟩ = some (.int .u64 (loW n)) := cell_later hbc (by simp [go_sem])
      have q0 : wc.frozen? ⟨w.heap.size, 0, none⟩ = false := by rw [hbc.frozen (p := ⟨w.heap.size, 0, none⟩) (by simp)]; simp [go_sem]
      have q1 : wc.frozen? ⟨w.heap.size, 1, none⟩ = false := by rw [hbc.frozen (p := ⟨w.heap.size, 1, none⟩) (by simp)]; simp [go_sem]
      have hB : Below w.heap.size w wc := ((Below.refl _ _).alloc (Nat.le_refl _) _).trans (hbc.mono (by simp))
      go_wp2
      go_ret2
      exact ⟨ret_two' (by rw [HV.out]) HE.out, ((hB.setCell (Nat.le_refl _) _).setCell (Nat.le_refl _) _).setCell (Nat.le_refl _) _⟩
end Go.Proofs.Ygcoah
