/-
  THE WALKS OF PACKAGE wide: root.
-/
import Derived.Test.YgcoahRootP
import Derived.Test.YgcoahWide7
import Derived.Test.YgcoahSoft1
namespace Go.Proofs.Ygcoah
open Go.RowKit

theorem or_add (k s b : Nat) (hs : s % 2 ^ k = 0) (hb : b < 2 ^ k) (h1 : s < 18446744073709551616) (h2 : b < 18446744073709551616) : bits .or .u64 (s : Int) (b : Int) = ((s + b : Nat) : Int) := by
  rw [u64_or_nat s b h1 h2, nat_join k s b hs hb]

set_option maxRecDepth 100000 in
set_option maxHeartbeats 1600000 in
theorem root_any (x r : Nat) (w : World) (h0 : 4611686018427387904 ≤ x) (hx : x < 18446744073709551616) (hr : IsSqrt x r) :
    Calls Oahg.prog 94 #[.int .u64 x] w fun e w' => e = .returned (.tuple #[.int .u64 r, .int .u64 ((x - r * r : Nat) : Int)]) ∧ w' = w := by
  obtain ⟨t, ht⟩ : ∃ t, t = x / 4294967296 := ⟨_, rfl⟩
  have ht' : (x : Int) / 4294967296 = (t : Int) := by omega
  have HT : Hid (t = x / 4294967296) := ht
  have ht1 : 1073741824 ≤ t := by omega
  have ht2 : t < 4294967296 := by omega
  have HR : Hid (IsSqrt x r) := hr
  clear ht hr
  go_enter Oahg.func94, Oahg.ntmps94
  go_wp2
  go_loop [2, 5, 6] (fun vs vl vb => ∃ j s l b : Nat, j ≤ 16 ∧ vs = .int .u64 s ∧ vl = .int .u64 l ∧ vb = .int .u64 b ∧ s < 65536 ∧ l < 4294967296 ∧ b ≤ 32768 ∧ Hid (b = 2 ^ j / 2) ∧ Hid (s * s + l = t) ∧ Hid (s % 2 ^ j = 0) ∧ Hid (s + 2 ^ j ≤ 65536) ∧ Hid (t < (s + 2 ^ j) * (s + 2 ^ j))) (fun _ _ vb => (intOf vb).toNat)
  case atStart =>
    refine ⟨16, 0, t, 32768, by omega, rfl, rfl, rfl, by omega, ht2, by omega, by unfold Hid; decide, by unfold Hid; omega, by unfold Hid; decide, by unfold Hid; decide, by unfold Hid; simpa using ht2⟩
  case round =>
    obtain ⟨j, s, l, b, hj, rfl, rfl, rfl, hs, hl, hb, HB, H1, H2, H3, H4⟩ := hrel
    by_cases c0 : b = 0
    · subst c0
      have j0 : j = 0 := by
        rcases Nat.eq_zero_or_pos j with z | z
        · exact z
        · have := HB.out
          have e : (2 : Nat) ^ j = 2 * 2 ^ (j - 1) := by rw [← Nat.pow_succ']; congr 1; omega
          have := pow_pos2 (j - 1)
          omega
      subst j0
      have h1 : s * s + l = t := H1.out
      have h4 : t < (s + 1) * (s + 1) := H4.out
      have hs1 : 32768 ≤ s := by
        rcases Nat.lt_or_ge s 32768 with z | z
        · have : (s + 1) * (s + 1) ≤ 32768 * 32768 := Nat.mul_le_mul (by omega) (by omega)
          omega
        · exact z
      have hl2 : l ≤ 2 * s := by
        have e : (s + 1) * (s + 1) = s * s + 2 * s + 1 := by rw [Nat.add_mul, Nat.mul_add]; omega
        omega
      obtain ⟨mid, hmid⟩ : ∃ mid, mid = x / 65536 % 65536 := ⟨_, rfl⟩
      have hrh := root_half (B := 65536) (mid := mid) (lo := x % 65536) (by decide) h1.symm h4 (by omega) (by omega) (Nat.mod_lt _ (by decide))
      have hxx : t * (65536 * 65536) + mid * 65536 + x % 65536 = x := by have := HT.out; omega
      rw [hxx] at hrh
      obtain ⟨lw, hlw⟩ : ∃ lw, lw = (l * 65536 + mid) / (2 * s) := ⟨_, rfl⟩
      rw [← hlw] at hrh
      obtain ⟨q, hq⟩ : ∃ q, q = min lw (65536 - 1) := ⟨_, rfl⟩
      rw [← hq] at hrh
      obtain ⟨S, hS⟩ : ∃ S, S = s * 65536 + q := ⟨_, rfl⟩
      rw [← hS] at hrh
      have hS32 : S < 4294967296 := by omega
      obtain ⟨SS, hSS⟩ : ∃ SS, SS = S * S := ⟨_, rfl⟩
      have hSSl : SS < 18446744073709551616 := by
        have : S * S ≤ 4294967295 * 4294967295 := Nat.mul_le_mul (by omega) (by omega)
        omega
      obtain ⟨A, hA⟩ : ∃ A, A = 2 * s := ⟨_, rfl⟩
      obtain ⟨L, hL⟩ : ∃ L, L = l * 65536 := ⟨_, rfl⟩
      obtain ⟨N, hN⟩ : ∃ N, N = L + mid := ⟨_, rfl⟩
      obtain ⟨S0, hS0⟩ : ∃ S0, S0 = s * 65536 := ⟨_, rfl⟩
      have w1 : IntKind.u64.wrap ((l : Int) * 65536) = (L : Int) := by rw [IntKind.wrap_u64]; omega
      have w2' : bits .and .u64 ((x : Int) / 65536) 65535 = (mid : Int) := by
        have e := u64_and_nat (x / 65536) 65535 (by omega) (by decide)
        have e2 : x / 65536 &&& 65535 = mid := by rw [show (65535 : Nat) = 2 ^ 16 - 1 by decide, Nat.and_two_pow_sub_one_eq_mod, hmid]
        rw [e2] at e
        rw [← e]
        rfl
      have w3 : bits .or .u64 (L : Int) (mid : Int) = (N : Int) := by rw [hN]; exact or_add 16 L mid (by omega) (by omega) (by omega) (by omega)
      have w4 : IntKind.u64.wrap (2 * (s : Int)) = (A : Int) := by rw [IntKind.wrap_u64]; omega
      have w5 : (N : Int) / (A : Int) = (lw : Int) := by rw [hlw, hN, hL, hA]; rfl
      have w6 : IntKind.u64.wrap ((s : Int) * 65536) = (S0 : Int) := by rw [IntKind.wrap_u64]; omega
      have w7 : bits .or .u64 (S0 : Int) (q : Int) = (S : Int) := by rw [hS, ← hS0]; exact or_add 16 S0 q (by omega) (by omega) (by omega) (by omega)
      have w9 : IntKind.u64.wrap ((S : Int) * (S : Int)) = (SS : Int) := by
        have e : (S : Int) * (S : Int) = (SS : Int) := by rw [hSS]; simp
        rw [e]; exact wrapN _ hSSl
      have hA0 : ((A : Int) == 0) = false := by rw [beq_eq_false_iff_ne]; omega
      have hA1 : ¬ (A : Int) = 0 := by omega
      have lwl : lw < 18446744073709551616 := by
        have : lw ≤ l * 65536 + mid := by rw [hlw]; exact Nat.div_le_self _ _
        omega
      have w5' : IntKind.u64.wrap (Int.tdiv (N : Int) (A : Int)) = (lw : Int) := by rw [Int.tdiv_eq_ediv_of_nonneg (by omega), w5]; exact wrapN _ lwl
      have w5b : IntKind.u64.wrap ((N : Int) / (A : Int)) = (lw : Int) := by rw [w5]; exact wrapN _ lwl
      clear w5
      have hIs : IsSqrt x r := HR.out
      have hr1 : SS ≤ x → S = r := fun c => IsSqrt.uniq ⟨by rw [← hSS]; exact c, hrh.1⟩ hIs
      have hr2 : x < SS → S = r + 1 := fun c => by
        rcases hrh.2 with g | ⟨g1, g2⟩
        · omega
        · have : S - 1 = r := IsSqrt.uniq ⟨g2, by rw [show S - 1 + 1 = S by omega, ← hSS]; exact c⟩ hIs
          omega
      have hrl : r * r ≤ x := hIs.1
      clear hrh hIs hL hN hA hS0 hlw hxx hl2 h1 h4 hs1 HB H1 H2 H3 H4 hS hmid
      by_cases cq : lw ≤ 65535
      · have eq : lw = q := by omega
        subst eq
        have iq : (lw : Int) ≤ 65535 := by omega
        have iq2 : decide ((65535 : Int) < (lw : Int)) = false := decide_eq_false (by omega)
        clear cq hq
        by_cases cS : SS ≤ x
        · have i2 : decide ((x : Int) < (SS : Int)) = false := decide_eq_false (by omega)
          have i3 : (SS : Int) ≤ (x : Int) := by omega
          obtain ⟨RR, hRR⟩ : ∃ RR, RR = x - r * r := ⟨_, rfl⟩
          have HE : Hid (S = r ∧ RR = x - r * r) := ⟨hr1 cS, hRR⟩
          have w8 : IntKind.u64.wrap ((x : Int) - (SS : Int)) = (RR : Int) := by
            have e : SS = r * r := by rw [hSS, HE.out.1]
            rw [hRR, ← e, IntKind.wrap_u64]; omega
          clear hSS hRR hr1 hr2 hrl cS hSSl
          go_wp2
          go_ret2
          exact ⟨ret_two' (by rw [HE.out.1]) (by rw [HE.out.2]), rfl⟩
        · have i2 : (x : Int) < (SS : Int) := by omega
          have e : S = r + 1 := hr2 (by omega)
          have w10 : IntKind.u64.wrap ((S : Int) - 1) = (r : Int) := by rw [IntKind.wrap_u64]; omega
          obtain ⟨rr, hrr⟩ : ∃ rr, rr = r * r := ⟨_, rfl⟩
          obtain ⟨RR, hRR⟩ : ∃ RR, RR = x - r * r := ⟨_, rfl⟩
          have w11 : IntKind.u64.wrap ((r : Int) * (r : Int)) = (rr : Int) := by
            have e : (r : Int) * (r : Int) = (rr : Int) := by rw [hrr]; simp
            rw [e]; exact wrapN _ (by omega)
          have w8 : IntKind.u64.wrap ((x : Int) - (rr : Int)) = (RR : Int) := by rw [hRR, ← hrr, IntKind.wrap_u64]; omega
          have HE : Hid (RR = x - r * r) := hRR
          clear hSS hRR hr1 hr2 hrl cS hSSl e hrr
          go_wp2
          go_ret2
          exact ⟨ret_two' rfl (by rw [HE.out]), rfl⟩
      · have eq : q = 65535 := by omega
        subst eq
        have e65 : ((65535 : Nat) : Int) = 65535 := rfl
        rw [e65] at w7
        have iq : (65535 : Int) < (lw : Int) := by omega
        have iq2 : decide ((lw : Int) ≤ 65535) = false := decide_eq_false (by omega)
        clear cq hq
        by_cases cS : SS ≤ x
        · have i2 : decide ((x : Int) < (SS : Int)) = false := decide_eq_false (by omega)
          have i3 : (SS : Int) ≤ (x : Int) := by omega
          obtain ⟨RR, hRR⟩ : ∃ RR, RR = x - r * r := ⟨_, rfl⟩
          have HE : Hid (S = r ∧ RR = x - r * r) := ⟨hr1 cS, hRR⟩
          have w8 : IntKind.u64.wrap ((x : Int) - (SS : Int)) = (RR : Int) := by
            have e : SS = r * r := by rw [hSS, HE.out.1]
            rw [hRR, ← e, IntKind.wrap_u64]; omega
          clear hSS hRR hr1 hr2 hrl cS hSSl
          go_wp2
          go_ret2
          exact ⟨ret_two' (by rw [HE.out.1]) (by rw [HE.out.2]), rfl⟩
        · have i2 : (x : Int) < (SS : Int) := by omega
          have e : S = r + 1 := hr2 (by omega)
          have w10 : IntKind.u64.wrap ((S : Int) - 1) = (r : Int) := by rw [IntKind.wrap_u64]; omega
          obtain ⟨rr, hrr⟩ : ∃ rr, rr = r * r := ⟨_, rfl⟩
          obtain ⟨RR, hRR⟩ : ∃ RR, RR = x - r * r := ⟨_, rfl⟩
          have w11 : IntKind.u64.wrap ((r : Int) * (r : Int)) = (rr : Int) := by
            have e : (r : Int) * (r : Int) = (rr : Int) := by rw [hrr]; simp
            rw [e]; exact wrapN _ (by omega)
          have w8 : IntKind.u64.wrap ((x : Int) - (rr : Int)) = (RR : Int) := by rw [hRR, ← hrr, IntKind.wrap_u64]; omega
          have HE : Hid (RR = x - r * r) := hRR
          clear hSS hRR hr1 hr2 hrl cS hSSl e hrr
          go_wp2
          go_ret2
          exact ⟨ret_two' rfl (by rw [HE.out]), rfl⟩
    · have hj1 : 1 ≤ j := by
        rcases Nat.eq_zero_or_pos j with z | z
        · subst z; have := HB.out; omega
        · exact z
      have ej : (2 : Nat) ^ j = 2 * 2 ^ (j - 1) := by rw [← Nat.pow_succ']; congr 1; omega
      have eb : b = 2 ^ (j - 1) := by have := HB.out; omega
      have H4' : t < (s + 2 * b) * (s + 2 * b) := by rw [eb, ← ej]; exact H4.out
      obtain ⟨k1, k2⟩ := root_turn H1.out H4'
      have H2' : s % 2 ^ j = 0 := H2.out
      have H3' : s + 2 * b ≤ 65536 := by have := H3.out; omega
      have hor := or_add j s b H2' (by rw [ej]; omega) (by omega) (by omega)
      obtain ⟨T, hT⟩ : ∃ T, T = (2 * s + b) * b := ⟨_, rfl⟩
      have hTi : (2 * (s : Int) + (b : Int)) * (b : Int) = (T : Int) := by rw [hT]; simp
      have hTl : T < 8589934592 := by
        have : (2 * s + b) * b ≤ 163840 * 32768 := Nat.mul_le_mul (by omega) hb
        omega
      have HK1 : Hid ((2 * s + b) * b ≤ l → (s + b) * (s + b) + (l - (2 * s + b) * b) = t ∧ t < (s + b + b) * (s + b + b)) := k1
      have HK2 : Hid (l < (2 * s + b) * b → t < (s + b) * (s + b)) := k2
      have HTT : Hid (T = (2 * s + b) * b) := hT
      have hd : (s + b : Nat) % 2 ^ (j - 1) = 0 ∧ s % 2 ^ (j - 1) = 0 := by
        have e1 : s % 2 ^ (j - 1) = 0 := by
          rw [← Nat.mod_mod_of_dvd s ⟨2, show 2 ^ j = 2 ^ (j - 1) * 2 by rw [ej, Nat.mul_comm]⟩, H2', Nat.zero_mod]
        exact ⟨by rw [Nat.add_mod, e1, eb, Nat.mod_self, Nat.add_zero, Nat.zero_mod], e1⟩
      have HD : Hid ((s + b : Nat) % 2 ^ (j - 1) = 0 ∧ s % 2 ^ (j - 1) = 0) := hd
      have HJ : Hid (b = 2 ^ (j - 1)) := eb
      obtain ⟨A, hA⟩ : ∃ A, A = 2 * s := ⟨_, rfl⟩
      obtain ⟨B, hB⟩ : ∃ B, B = A + b := ⟨_, rfl⟩
      obtain ⟨b', hb'⟩ : ∃ b', b' = b / 2 := ⟨_, rfl⟩
      obtain ⟨s', hs'⟩ : ∃ s', s' = s + b := ⟨_, rfl⟩
      have w1 : IntKind.u64.wrap (2 * (s : Int)) = (A : Int) := by rw [IntKind.wrap_u64]; omega
      have w2 : IntKind.u64.wrap ((A : Int) + (b : Int)) = (B : Int) := by rw [IntKind.wrap_u64]; omega
      have w3 : IntKind.u64.wrap ((B : Int) * (b : Int)) = (T : Int) := by
        have e : (B : Int) * (b : Int) = (T : Int) := by rw [← hTi, hB, hA]; simp
        rw [e]; exact wrapN _ (by omega)
      have w5 : (b : Int) / 2 = (b' : Int) := by omega
      have b0 : (0 : Int) < (b : Int) := by omega
      rw [← hs'] at hor
      have HA : Hid (s' = s + b ∧ b' = b / 2) := ⟨hs', hb'⟩
      have HLE : Hid (s + 2 * b ≤ 65536 ∧ b ≤ 32768 ∧ l < 4294967296) := ⟨H3', hb, hl⟩
      clear k1 k2 H4' H2' ej eb hT hd hTi hTl H3' hA hB hb' hs' hb hl hs
      by_cases cT : T ≤ l
      · obtain ⟨d, hd⟩ : ∃ d, d = l - T := ⟨_, rfl⟩
        have iT : (T : Int) ≤ (l : Int) := by omega
        have w4 : IntKind.u64.wrap ((l : Int) - (T : Int)) = (d : Int) := by have := HLE.out; rw [IntKind.wrap_u64]; omega
        have HC : Hid (d = l - T ∧ T ≤ l) := ⟨hd, cT⟩
        clear cT hd
        go_wp2
        go_round
        case rel =>
          obtain ⟨g1, g2⟩ := HK1.out (by rw [← HTT.out]; exact HC.out.2)
          obtain ⟨m1, m2⟩ := HA.out
          obtain ⟨m3, m4⟩ := HC.out
          obtain ⟨m5, m6, m7⟩ := HLE.out
          refine ⟨j - 1, s', d, b', by omega, by go_num, by go_num, by go_num, by omega, by omega, by omega, ?_, ?_, ?_, ?_, ?_⟩
          · unfold Hid; rw [m2, HJ.out]
          · unfold Hid; rw [m1, m3, HTT.out]; exact g1
          · unfold Hid; rw [m1]; exact HD.out.1
          · unfold Hid; rw [← HJ.out]; omega
          · unfold Hid; rw [← HJ.out, m1]; exact g2
        case measure => have := HA.out; simp [intOf]; omega
      · have iT : (l : Int) < (T : Int) := by omega
        have HC : Hid (l < T) := by unfold Hid; omega
        clear cT
        go_wp2
        go_round
        case rel =>
          have g2 := HK2.out (by rw [← HTT.out]; exact HC.out)
          obtain ⟨m1, m2⟩ := HA.out
          obtain ⟨m5, m6, m7⟩ := HLE.out
          refine ⟨j - 1, s, l, b', by omega, by go_num, by go_num, by go_num, by omega, by omega, by omega, ?_, H1, HD.out.2, ?_, ?_⟩
          · unfold Hid; rw [m2, HJ.out]
          · unfold Hid; rw [← HJ.out]; omega
          · unfold Hid; rw [← HJ.out]; exact g2
        case measure => have := HA.out; simp [intOf]; omega

end Go.Proofs.Ygcoah
