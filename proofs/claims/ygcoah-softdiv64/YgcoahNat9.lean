/-
  THE WALKS OF PACKAGE nat, 9: guess.
-/
import Derived.Test.YgcoahNat8
import Derived.Test.YgcoahKnuth2
namespace Go.Proofs.Ygcoah
open Go.RowKit

theorem prod_cast_le (a b : Nat) (ha : a < 4294967296) (hb : b < 4294967296) : 0 ≤ (a : Int) * (b : Int) ∧ (a : Int) * (b : Int) ≤ 18446744065119617025 := by
  have := prod_le a b ha hb
  rw [← Int.natCast_mul]; omega

theorem ret_int {k : IntKind} {a b : Int} (h : a = b) : Ending.returned (.int k a) = .returned (.int k b) := by rw [h]

set_option maxHeartbeats 800000 in
theorem guess_any (u2 u1 u0 d1 d0 : Nat) (w : World) (hu2 : u2 ≤ d1) (hu1 : u1 < 4294967296) (hu0 : u0 < 4294967296) (hd : 2147483648 ≤ d1) (hd1 : d1 < 4294967296) (hd0 : d0 < 4294967296) :
    Calls Oahg.prog 150 #[.int .u32 u2, .int .u32 u1, .int .u32 u0, .int .u32 d1, .int .u32 d0] w fun e w' => e = .returned (.int .u32 (gq (u1 + u2 * 4294967296) u0 d1 d0)) ∧ ∃ m, w' = w.drewN m := by
  have hor := or_join' u1 u2 hu1 (by omega)
  have hdne : ((d1 : Int) == 0) = false := by rw [beq_eq_false_iff_ne]; omega
  have hd1' : (1 : Int) ≤ (d1 : Int) := by omega
  have hhead : u1 + u2 * 4294967296 < (d1 + 1) * 4294967296 := by rw [Nat.add_mul]; omega
  have hh64 : u1 + u2 * 4294967296 < 18446744073709551616 := by omega
  generalize u1 + u2 * 4294967296 = head at *
  have HH : Hid (head < (d1 + 1) * 4294967296) := hhead
  clear hhead
  go_enter Oahg.func150, Oahg.ntmps150
  go_wp2
  go_quiet (fail)
  go_wp2
  go_loopw [12, 13] (fun te tr wr => ∃ est rest : Nat, te = .int .u64 est ∧ tr = .int .u64 rest ∧ Hid (GI head u0 d1 d0 est rest) ∧ rest < 4294967296 ∧ est ≤ 4294967297 ∧ ∃ m, wr = w.drewN m) (fun te _ _ => (intOf te).toNat)
  case atStart =>
    have hG := GI.start (u0 := u0) (d0 := d0) HH.out hd hd1 hu0
    refine ⟨head / d1, head % d1, ?_, rfl, hG, hG.rlt, hG.le, _, rfl⟩
    rw [← Int.natCast_ediv, IntKind.wrap_u64]
    have := hG.le
    generalize head / d1 = q at *
    congr 1
    omega
  case round =>
    obtain ⟨est, rest, rfl, rfl, HG, hr, he, mq, rfl⟩ := hrel
    by_cases h1 : 4294967296 ≤ est
    · have HC : Hid (4294967296 ≤ est ∨ rest * 4294967296 + u0 < est * d0) := Or.inl h1
      have i1 : (4294967296 : Int) ≤ (est : Int) := by omega
      by_cases h2 : rest + d1 < 4294967296
      · have HR : Hid (rest + d1 < 4294967296) := h2
        have i2 : decide ((4294967296 : Int) ≤ (rest : Int) + (d1 : Int)) = false := decide_eq_false (by omega)
        have i3 : (rest : Int) + (d1 : Int) ≤ 10000000000 := by omega
        clear h1 h2
        go_wp2
        go_roundw
        case rel => exact ⟨est - 1, rest + d1, by go_num, by go_num, HG.out.go (by omega) HC.out HR.out, HR.out, by omega, _, rfl⟩
        case measure => simp [intOf]; omega
      · have HR : Hid (4294967296 ≤ rest + d1) := by unfold Hid; omega
        have i2 : (4294967296 : Int) ≤ (rest : Int) + (d1 : Int) := by omega
        have HS : Hid (est - 1 = gq head u0 d1 d0) := HG.out.ends HH.out (by omega) hd0 HC.out (by omega)
        clear h1 h2
        go_wp2
        go_ret
        refine ⟨?_, _, rfl⟩
        rw [← HS.out]
        have := gq_lt (head := head) (u0 := u0) (d1 := d1) (d0 := d0)
        rw [← HS.out] at this
        show Ending.returned (.int .u32 (((est : Int) - 1) % 4294967296)) = _
        congr 2
        omega
    · have hlt : est < 4294967296 := by omega
      obtain ⟨p0, p1⟩ := prod_cast_le est d0 hlt hd0
      have hor2 := or_join' u0 rest hu0 hr
      have i1 : decide ((4294967296 : Int) ≤ (est : Int)) = false := decide_eq_false (by omega)
      obtain ⟨z, ez⟩ : ∃ z, z = u0 + rest * 4294967296 := ⟨_, rfl⟩
      rw [← ez] at hor2
      by_cases h2 : est * d0 ≤ rest * 4294967296 + u0
      · have HS : Hid (est = gq head u0 d1 d0) := HG.out.done (by omega) hlt h2
        have i2 : decide ((z : Int) < (est : Int) * (d0 : Int)) = false := decide_eq_false (by rw [← Int.natCast_mul]; omega)
        clear h1 h2 ez
        go_wp2
        go_ret
        exact ⟨ret_int (by rw [← HS.out]), _, rfl⟩
      · have i2 : (z : Int) < (est : Int) * (d0 : Int) := by rw [← Int.natCast_mul]; omega
        have HC : Hid (4294967296 ≤ est ∨ rest * 4294967296 + u0 < est * d0) := Or.inr (by omega)
        have hpos : 0 < est := GI.pos HC.out
        by_cases h3 : rest + d1 < 4294967296
        · have HR : Hid (rest + d1 < 4294967296) := h3
          have i3 : decide ((4294967296 : Int) ≤ (rest : Int) + (d1 : Int)) = false := decide_eq_false (by omega)
          have i4 : (rest : Int) + (d1 : Int) ≤ 10000000000 := by omega
          clear h1 h2 h3 ez
          go_wp2
          go_roundw
          case rel => exact ⟨est - 1, rest + d1, by go_num, by go_num, HG.out.go (by omega) HC.out HR.out, HR.out, by omega, _, rfl⟩
          case measure => simp [intOf]; omega
        · have i3 : (4294967296 : Int) ≤ (rest : Int) + (d1 : Int) := by omega
          have HS : Hid (est - 1 = gq head u0 d1 d0) := HG.out.ends HH.out (by omega) hd0 HC.out (by omega)
          clear h1 h2 h3 ez
          go_wp2
          go_ret
          exact ⟨ret_int (by rw [← HS.out]; omega), _, rfl⟩
end Go.Proofs.Ygcoah
