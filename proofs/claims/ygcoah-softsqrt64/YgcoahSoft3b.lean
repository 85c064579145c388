/-
  THE WALKS OF PACKAGE soft, 3b: roundPack, at the least normal exponent.
-/
import Derived.Test.YgcoahSoft2
namespace Go.Proofs.Ygcoah
open Go.RowKit

set_option maxRecDepth 100000 in
set_option maxHeartbeats 1600000 in
theorem roundPack_least (E M mode : Nat) (neg : Bool) (exp : Int) (sig : Nat) (w : World) (h : FOk E M) (h0 : 0 < sig) (hs : sig < 18446744073709551616) (hx1 : -5000 ≤ exp) (hx2 : exp ≤ 5000) (hcase : eminI E = exp - ((64 - bl sig : Nat) : Int) + 63) :
    Calls Oahg.prog 58 #[.agg #[.int .u8 E, .int .u8 M], .int .u8 mode, .bool neg, .int .i16 exp, .int .u64 sig] w fun r w' => (∃ fl : Int, r = .returned (.tuple #[.int .u64 (softR E M mode neg exp sig), .int .u8 fl])) ∧ Below w.heap.size w w' := by
  obtain ⟨i1, i2, i3, i4⟩ := h.ints
  have hb : bl sig ≤ 64 := (bl_le_iff _ _).2 hs
  have hbp := bl_pos sig h0
  have hcl := fun w' => clz_any sig w' h0 hs
  have hE1 := h.powE1
  have hbias : biasP E ≤ 1023 := by unfold biasP; omega
  have hbias1 : 1 ≤ biasP E := by unfold biasP; omega
  have hnw := norm_word' sig h0 hs
  obtain ⟨ld, eld⟩ : ∃ ld, ld = 64 - bl sig := ⟨_, rfl⟩
  rw [← eld] at hcl hnw
  have hld : ld < 64 := by omega
  have b0 : ((sig : Int) == 0) = false := by rw [beq_eq_false_iff_ne]; omega
  have hbi := fun w' => bias_any E M w' h
  obtain ⟨s, es⟩ : ∃ s, s = sig * 2 ^ ld := ⟨_, rfl⟩
  have qs : IntKind.u64.wrap ((sig : Int) * 2 ^ ld) = (s : Int) := by rw [cast_mul_pow, ← es]; exact wrapN _ (by rw [es]; exact hnw.2)
  have hs64 : s < 18446744073709551616 := by rw [es]; exact hnw.2
  obtain ⟨rl, erl⟩ : ∃ rl : Int, rl = exp - (ld : Int) + 63 := ⟨_, rfl⟩
  obtain ⟨em, eem⟩ : ∃ em : Int, em = 1 - (biasP E : Int) := ⟨_, rfl⟩
  have q1 : 1 - (biasP E : Int) = em := eem.symm
  have q2 : exp - (ld : Int) + 63 = rl := erl.symm
  have hrl1 : -5000 ≤ rl := by omega
  have hrl2 : rl ≤ 5063 := by omega
  have hem1 : -1022 ≤ em := by omega
  have hem2 : em ≤ 0 := by omega
  have HLD : Hid (ld = 64 - bl sig) := eld
  have HS : Hid (s = sig * 2 ^ ld) := es
  have HRL : Hid (rl = exp - (ld : Int) + 63) := erl
  have HEM : Hid (em = eminI E) := eem
  have hMp := h.powM
  have hc : em = rl := by rw [HEM.out, HRL.out, HLD.out]; exact hcase
  have hov' : ¬ (biasP E : Int) < rl := by omega
  obtain ⟨k, ek⟩ : ∃ k : Nat, (k : Int) = 63 - (M : Int) + rl - rl := ⟨(63 - (M : Int) + rl - rl).toNat, by omega⟩
  have hk1 : k ≤ 30000 := by omega
  have hk2 : 11 ≤ k := by omega
  obtain ⟨Y, eY⟩ : ∃ Y, Y = (rl - em).toNat * 2 ^ M := ⟨_, rfl⟩
  have HR : Hid (softR E M mode neg exp sig = if infP E M ≤ Y + (s / 2 ^ k + if raiseQ mode neg (decide (s / 2 ^ k % 2 = 1)) (cmpI (cutR s k) 9223372036854775808) (decide (cutR s k ≠ 0)) then 1 else 0) then ovfP E M mode neg else Y + (s / 2 ^ k + if raiseQ mode neg (decide (s / 2 ^ k % 2 = 1)) (cmpI (cutR s k) 9223372036854775808) (decide (cutR s k ≠ 0)) then 1 else 0) + sgnP E M neg) := by
    unfold Hid
    rw [softR_of HLD.out HS.out HRL.out (ee := rl) (by rw [← HEM.out]; omega) hov' ek.symm]
    exact packP_of (by rw [← HEM.out]; exact eY)
  have hn1 : s / 2 ^ k ≤ 9007199254740991 := by
    have h1 : s / 2 ^ k ≤ s / 2 ^ 11 := Nat.div_le_div_left (Nat.pow_le_pow_right (by decide) hk2) (by decide)
    have h2 : s / 2 ^ 11 < 9007199254740992 := by
      show s / 2048 < _
      omega
    omega
  have hYb : Y ≤ 9223372036854775808 := by
    have h1 := h.pow
    have h2 := h.powE
    have h3 : (rl - em).toNat ≤ 2 ^ E := by
      have : 2 ^ E = 2 * 2 ^ (E - 1) := by rw [← Nat.pow_succ', show (E - 1).succ = E by unfold FOk at h; omega]
      unfold biasP at *
      omega
    have h4 := Nat.mul_le_mul_right (2 ^ M) h3
    rw [← Nat.pow_add, ← eY] at h4
    omega
  have hcut := fun w' => cut_any s k w' hs64 hk1
  have hra := fun w' => sraises_any mode neg (s / 2 ^ k) (cutR s k) w' (by omega)
  have hinf := fun w' => inf_any E M false w' h
  have hinfe : infS E M false = infP E M := rfl
  rw [hinfe] at hinf
  have hzz := fun w' => szero_any E M neg w' h
  have hoo := fun w' => soverflow_any E M mode neg w' h
  have HOR : Hid (∀ x, x < infP E M → bits .or .u64 (x : Int) (sgnP E M neg : Int) = ((x + sgnP E M neg : Nat) : Int)) := by
    intro x hx
    have h1 := infP_lt E M
    have h2 := h.pow
    cases neg with
    | false =>
      show bits .or .u64 (x : Int) ((0 : Nat) : Int) = ((x + 0 : Nat) : Int)
      rw [u64_or_nat _ _ (by omega) (by omega), Nat.or_zero, Nat.add_zero]
    | true =>
      have h3 := or_sign E M x true (by omega)
      simp only [if_true] at h3
      rw [u64_or_nat _ _ (by omega) (by show 2 ^ (E + M) < _; omega)]
      exact congrArg _ h3
  have hip := infP_lt E M
  have hpw := h.pow
  have hinf64 : infP E M < 9223372036854775808 := by omega
  generalize raiseQ mode neg (decide (s / 2 ^ k % 2 = 1)) (cmpI (cutR s k) 9223372036854775808) (decide (cutR s k ≠ 0)) = rb at *
  generalize cutR s k = R at *
  generalize s / 2 ^ k = N at *
  generalize ovfP E M mode neg = O at *
  generalize sgnP E M neg = Z at *
  generalize infP E M = I at *
  have q3 : 63 - (M : Int) = (k : Int) := by omega
  have HY : Hid (Y = 0) := by unfold Hid; rw [eY, hc, Int.sub_self]; simp
  have b1 : (rl == rl - 1) = false := by rw [beq_eq_false_iff_ne]; omega
  clear eld es erl eem hnw hMp hE1 ek eY hcase hip hpw hinfe
  go_enter Oahg.func58, Oahg.ntmps58
  go_wp2_with (go_at_call 93; refine (hcl _).mono ?_; rintro e wb ⟨rfl, rfl⟩)
  refine (hbi _).mono ?_
  rintro e w1 ⟨rfl, hb1⟩
  have s0 : w1.cell? ⟨w.heap.size, 0, none⟩ = some (.int .u8 E) := cell_later hb1 (by simp [go_sem])
  have s1 : w1.cell? ⟨w.heap.size, 1, none⟩ = some (.int .u8 M) := cell_later hb1 (by simp [go_sem])
  have hB1 : Below w.heap.size w w1 := ((Below.refl _ _).alloc (Nat.le_refl _) _).trans (hb1.mono (by simp))
  go_wp2_with fail
  refine (hbi _).mono ?_
  rintro e w2 ⟨rfl, hb2⟩
  have s02 := cell_later hb2 s0
  have s12 := cell_later hb2 s1
  have hB2 : Below w.heap.size w w2 := hB1.trans (hb2.mono hB1.size)
  clear s0 s1 hb1 hb2
  go_wp2_with fail
  refine (hcut _).mono ?_
  rintro e w3 ⟨rfl, hb3⟩
  have s03 := cell_later hb3 s02
  have s13 := cell_later hb3 s12
  have hB3 : Below w.heap.size w w3 := hB2.trans (hb3.mono hB2.size)
  clear s02 s12 hb3
  go_wp2_with fail
  refine (hra _).mono ?_
  rintro e wq ⟨rfl, rfl⟩
  clear hra hcut
  cases rb with
  | true =>
    have hn2 : N + 1 ≤ 9007199254740992 := by omega
    have HX : Hid (softR E M mode neg exp sig = if I ≤ N + 1 then O else N + 1 + Z) := by
      unfold Hid; rw [HR.out, HY.out, Nat.zero_add]; rfl
    clear HR
    go_wp2_with fail
    refine (hinf _).mono ?_
    rintro e w4 ⟨rfl, hb4⟩
    have s04 := cell_later hb4 s03
    have s14 := cell_later hb4 s13
    have hB4 := hB3.trans (hb4.mono hB3.size)
    clear s03 s13 hb4
    by_cases hge : I ≤ N + 1
    · have HV : Hid (softR E M mode neg exp sig = O) := by unfold Hid; rw [HX.out, if_pos hge]
      have hgi : (I : Int) ≤ (N : Int) + 1 := by omega
      clear HX
      go_wp2_with fail
      refine (hoo _).mono ?_
      rintro e w5 ⟨⟨fl, rfl⟩, hb5⟩
      go_wp2
      go_ret2
      exact ⟨⟨fl, by rw [HV.out]; rfl⟩, hB4.trans (hb5.mono hB4.size)⟩
    · have HV : Hid (softR E M mode neg exp sig = N + 1 + Z) := by unfold Hid; rw [HX.out, if_neg hge]
      have hor := HOR.out (N + 1) (by omega)
      have hgi : ¬ (I : Int) ≤ (N : Int) + 1 := by omega
      have ecast : ((N + 1 : Nat) : Int) = (N : Int) + 1 := by omega
      rw [ecast] at hor
      generalize N + 1 + Z = V at *
      clear HX ecast
      by_cases hR0 : R = 0
      · subst hR0
        go_wp2_with fail
        refine (hzz _).mono ?_
        rintro e w5 ⟨rfl, hb5⟩
        go_wp2
        go_ret2
        exact ⟨⟨_, by rw [HV.out]; rfl⟩, hB4.trans (hb5.mono hB4.size)⟩
      · have bR : ((R : Int) == 0) = false := by rw [beq_eq_false_iff_ne]; omega
        go_wp2_with fail
        refine (hzz _).mono ?_
        rintro e w5 ⟨rfl, hb5⟩
        go_wp2
        go_ret2
        exact ⟨⟨_, by rw [HV.out]; rfl⟩, hB4.trans (hb5.mono hB4.size)⟩
  | false =>
    have hn2 : N ≤ 9007199254740992 := by omega
    have HX : Hid (softR E M mode neg exp sig = if I ≤ N then O else N + Z) := by
      unfold Hid; rw [HR.out, HY.out, Nat.zero_add]; rfl
    clear HR
    go_wp2_with fail
    refine (hinf _).mono ?_
    rintro e w4 ⟨rfl, hb4⟩
    have s04 := cell_later hb4 s03
    have s14 := cell_later hb4 s13
    have hB4 := hB3.trans (hb4.mono hB3.size)
    clear s03 s13 hb4
    by_cases hge : I ≤ N
    · have HV : Hid (softR E M mode neg exp sig = O) := by unfold Hid; rw [HX.out, if_pos hge]
      have hgi : (I : Int) ≤ (N : Int) := by omega
      clear HX
      go_wp2_with fail
      refine (hoo _).mono ?_
      rintro e w5 ⟨⟨fl, rfl⟩, hb5⟩
      go_wp2
      go_ret2
      exact ⟨⟨fl, by rw [HV.out]; rfl⟩, hB4.trans (hb5.mono hB4.size)⟩
    · have HV : Hid (softR E M mode neg exp sig = N + Z) := by unfold Hid; rw [HX.out, if_neg hge]
      have hor := HOR.out (N) (by omega)
      have hgi : ¬ (I : Int) ≤ (N : Int) := by omega
      have ecast : ((N : Nat) : Int) = (N : Int) := by omega
      rw [ecast] at hor
      generalize N + Z = V at *
      clear HX ecast
      by_cases hR0 : R = 0
      · subst hR0
        go_wp2_with fail
        refine (hzz _).mono ?_
        rintro e w5 ⟨rfl, hb5⟩
        go_wp2
        go_ret2
        exact ⟨⟨_, by rw [HV.out]; rfl⟩, hB4.trans (hb5.mono hB4.size)⟩
      · have bR : ((R : Int) == 0) = false := by rw [beq_eq_false_iff_ne]; omega
        go_wp2_with fail
        refine (hzz _).mono ?_
        rintro e w5 ⟨rfl, hb5⟩
        go_wp2
        go_ret2
        exact ⟨⟨_, by rw [HV.out]; rfl⟩, hB4.trans (hb5.mono hB4.size)⟩
end Go.Proofs.Ygcoah
