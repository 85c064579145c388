/-
  THE WALKS OF PACKAGE wide, 5: divHalf.
-/
import Derived.Test.YgcoahWide4
import Derived.Test.YgcoahKnuth
namespace Go.Proofs.Ygcoah
open Go.RowKit

theorem or_up (x y : Nat) (hx : x < 4294967296) (hy : y < 4294967296) : bits .or .u64 ((y : Int) * 4294967296) (x : Int) = ((x + y * 4294967296 : Nat) : Int) := by
  have e : (y : Int) * 4294967296 = ((y * 4294967296 : Nat) : Int) := by omega
  rw [e, u64_or_nat _ _ (by omega) (by omega), nat_join 32 _ _ (by omega) (by omega), Nat.add_comm]

theorem half_rest {hi nx d q r : Nat} (h : hi * 4294967296 + nx = q * d + r) (hr : r < 18446744073709551616) :
    IntKind.u64.wrap (IntKind.u64.wrap (IntKind.u64.wrap ((hi : Int) * 4294967296) + (nx : Int)) - IntKind.u64.wrap ((q : Int) * (d : Int))) = (r : Int) := by
  simp only [IntKind.wrap_u64]
  rw [← Int.natCast_mul]
  omega

theorem ret_two {k l : IntKind} {a b c d : Int} (h : a = b) (h' : c = d) : Ending.returned (.tuple #[.int k a, .int l c]) = .returned (.tuple #[.int k b, .int l d]) := by rw [h, h']

set_option maxRecDepth 100000 in
set_option maxHeartbeats 800000 in
theorem divHalf_any (hi nx d : Nat) (w : World) (h1 : hi < d) (h2 : nx < 4294967296) (h3 : 9223372036854775808 ≤ d) (h4 : d < 18446744073709551616) :
    Calls Oahg.prog 134 #[.int .u64 hi, .int .u64 nx, .int .u64 d] w fun e w' => e = .returned (.tuple #[.int .u64 ((hi * 4294967296 + nx) / d : Nat), .int .u64 ((hi * 4294967296 + nx) % d : Nat)]) ∧ Below w.heap.size w w' := by
  obtain ⟨d1, ed1⟩ : ∃ d1, d1 = d / 4294967296 := ⟨_, rfl⟩
  obtain ⟨d0, ed0⟩ : ∃ d0, d0 = d % 4294967296 := ⟨_, rfl⟩
  have q1 : (d : Int) / 4294967296 = (d1 : Int) := by omega
  have q0 := and_mask32 d h4
  rw [← ed0] at q0
  have hd1 : 2147483648 ≤ d1 := by omega
  have hd1' : d1 < 4294967296 := by omega
  have hd0 : d0 < 4294967296 := by omega
  have hde : d = d1 * 4294967296 + d0 := by omega
  have hhead : hi < (d1 + 1) * 4294967296 := by rw [Nat.add_mul]; omega
  have hG := gq_exact (hi := hi) (u0 := nx) (d1 := d1) (d0 := d0) (by omega) h2
  rw [← hde] at hG
  have HG : Hid (gq hi nx d1 d0 = (hi * 4294967296 + nx) / d) := hG
  have HR : Hid (hi * 4294967296 + nx = (hi * 4294967296 + nx) / d * d + (hi * 4294967296 + nx) % d) := by
    unfold Hid
    have := Nat.div_add_mod (hi * 4294967296 + nx) d
    rw [Nat.mul_comm] at this
    exact this.symm
  have hrl : (hi * 4294967296 + nx) % d < 18446744073709551616 := by
    have := Nat.mod_lt (hi * 4294967296 + nx) (show 0 < d by omega); omega
  have hql : (hi * 4294967296 + nx) / d < 4294967296 := by rw [← hG]; exact gq_lt
  have HH : Hid (hi < (d1 + 1) * 4294967296) := hhead
  have hdne : ((d1 : Int) == 0) = false := by rw [beq_eq_false_iff_ne]; omega
  have hd1i : (1 : Int) ≤ (d1 : Int) := by omega
  have hhi : hi < 18446744073709551616 := by omega
  generalize (hi * 4294967296 + nx) / d = Q at *
  generalize (hi * 4294967296 + nx) % d = R at *
  clear hG hhead ed1 ed0 hde
  go_enter Oahg.func134, Oahg.ntmps134
  go_wp2
  go_quiet (fail)
  go_wp2
  go_loopw [6, 10] (fun te tr wr => ∃ est rest : Nat, te = .int .u64 est ∧ tr = .int .u64 rest ∧ Hid (GI hi nx d1 d0 est rest) ∧ rest < 4294967296 ∧ est ≤ 4294967297 ∧ Below w.heap.size w wr) (fun te _ _ => (intOf te).toNat)
  case atStart =>
    have hG := GI.start (u0 := nx) (d0 := d0) HH.out hd1 hd1' h2
    refine ⟨hi / d1, hi % d1, ?_, rfl, hG, hG.rlt, hG.le, below_drewN (Below.refl _ _) _⟩
    rw [← Int.natCast_ediv, IntKind.wrap_u64]
    have := hG.le
    generalize hi / d1 = q at *
    congr 1
    omega
  case round =>
    obtain ⟨est, rest, rfl, rfl, HGI, hr, he, hb⟩ := hrel
    by_cases c1 : 4294967296 ≤ est
    · have HC : Hid (4294967296 ≤ est ∨ rest * 4294967296 + nx < est * d0) := Or.inl c1
      have i1 : (4294967295 : Int) < (est : Int) := by omega
      have hpos : 0 < est := by omega
      by_cases c2 : rest + d1 < 4294967296
      · have HRR : Hid (rest + d1 < 4294967296) := c2
        have i2 : decide ((4294967295 : Int) < (rest : Int) + (d1 : Int)) = false := decide_eq_false (by omega)
        have i3 : (rest : Int) + (d1 : Int) ≤ 10000000000 := by omega
        clear c1 c2
        go_wp2
        go_roundw
        case rel => exact ⟨est - 1, rest + d1, by go_num, by go_num, HGI.out.go (by omega) HC.out HRR.out, HRR.out, by omega, hb⟩
        case measure => simp [intOf]; omega
      · have i2 : (4294967295 : Int) < (rest : Int) + (d1 : Int) := by omega
        have HS : Hid (est - 1 = Q) := by unfold Hid; rw [← HG.out]; exact HGI.out.ends HH.out (by omega) hd0 HC.out (by omega)
        clear c1 c2
        go_wp2
        go_ret2
        refine ⟨ret_two ?_ ?_, hb⟩
        · rw [← HS.out]; omega
        · rw [show (est : Int) - 1 = (Q : Int) by have := HS.out; omega]
          exact half_rest HR.out hrl
    · have hlt : est < 4294967296 := by omega
      obtain ⟨p0, p1⟩ := prod_ibd est d0 hlt hd0
      have hor2 := or_up nx rest h2 hr
      have i1 : decide ((4294967295 : Int) < (est : Int)) = false := decide_eq_false (by omega)
      obtain ⟨z, ez⟩ : ∃ z, z = nx + rest * 4294967296 := ⟨_, rfl⟩
      rw [← ez] at hor2
      by_cases c2 : est * d0 ≤ rest * 4294967296 + nx
      · have HS : Hid (est = Q) := by unfold Hid; rw [← HG.out]; exact HGI.out.done (by omega) hlt c2
        have i2 : decide ((z : Int) < (est : Int) * (d0 : Int)) = false := decide_eq_false (by rw [← Int.natCast_mul]; omega)
        clear c1 c2 ez
        go_wp2
        go_ret2
        refine ⟨ret_two ?_ ?_, hb⟩
        · rw [HS.out]
        · rw [HS.out]
          exact half_rest HR.out hrl
      · have i2 : (z : Int) < (est : Int) * (d0 : Int) := by rw [← Int.natCast_mul]; omega
        have HC : Hid (4294967296 ≤ est ∨ rest * 4294967296 + nx < est * d0) := Or.inr (by omega)
        have hpos : 0 < est := GI.pos HC.out
        by_cases c3 : rest + d1 < 4294967296
        · have HRR : Hid (rest + d1 < 4294967296) := c3
          have i3 : decide ((4294967295 : Int) < (rest : Int) + (d1 : Int)) = false := decide_eq_false (by omega)
          have i4 : (rest : Int) + (d1 : Int) ≤ 10000000000 := by omega
          clear c1 c2 c3 ez
          go_wp2
          go_roundw
          case rel => exact ⟨est - 1, rest + d1, by go_num, by go_num, HGI.out.go (by omega) HC.out HRR.out, HRR.out, by omega, hb⟩
          case measure => simp [intOf]; omega
        · have i3 : (4294967295 : Int) < (rest : Int) + (d1 : Int) := by omega
          have HS : Hid (est - 1 = Q) := by unfold Hid; rw [← HG.out]; exact HGI.out.ends HH.out (by omega) hd0 HC.out (by omega)
          clear c1 c2 c3 ez
          go_wp2
          go_ret2
          refine ⟨ret_two ?_ ?_, hb⟩
          · rw [← HS.out]; omega
          · rw [show (est : Int) - 1 = (Q : Int) by have := HS.out; omega]
            exact half_rest HR.out hrl
end Go.Proofs.Ygcoah
