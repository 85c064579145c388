/-
  THE WALKS OF PACKAGE wide, 3: Add.
-/
import Derived.Test.YgcoahWide2
namespace Go.Proofs.Ygcoah
open Go.RowKit

set_option maxRecDepth 100000 in
set_option maxHeartbeats 800000 in
theorem wadd_any (a b : Nat) (w : World) (h : a + b < 340282366920938463463374607431768211456) :
    Calls Oahg.prog 144 #[.agg #[.int .u64 (hiW a), .int .u64 (loW a)], .agg #[.int .u64 (hiW b), .int .u64 (loW b)]] w fun r w' => r = .returned (.tuple #[.agg #[.int .u64 (hiW (a + b)), .int .u64 (loW (a + b))], .bool false]) ∧ Below w.heap.size w w' := by
  have h1 := hi_lo a
  have h2 := hi_lo b
  have h3 := loW_lt a
  have h4 := loW_lt b
  have h5 := hiW_lt h
  have h6 := loW_lt (a + b)
  have h7 := hi_lo (a + b)
  by_cases c : loW a + loW b < 18446744073709551616
  · have e1 : hiW (a + b) = hiW a + hiW b := by omega
    have e2 : loW (a + b) = loW a + loW b := by omega
    have i1 : (hiW a : Int) + (hiW b : Int) < 18446744073709551616 := by omega
    have i2 : (loW a : Int) + (loW b : Int) < 18446744073709551616 := by omega
    have i3 : decide ((hiW a : Int) + (hiW b : Int) < (hiW a : Int)) = false := decide_eq_false (by omega)
    have i4 : decide ((loW a : Int) + (loW b : Int) < (loW a : Int)) = false := decide_eq_false (by omega)
    have e3 : ((hiW a + hiW b : Nat) : Int) = (hiW a : Int) + (hiW b : Int) := by omega
    have e4 : ((loW a + loW b : Nat) : Int) = (loW a : Int) + (loW b : Int) := by omega
    rw [e1, e2, e3, e4]
    clear h1 h2 h3 h4 h5 h6 h7 e1 e2 e3 e4 c h
    go_enter Oahg.func144, Oahg.ntmps144
    go_wp2
    exact bodyPost_ret (v := .tuple #[.agg #[.int .u64 ((hiW a : Int) + (hiW b : Int)), .int .u64 ((loW a : Int) + (loW b : Int))], .bool false]) (by simp [results, Oahg.results144, go_sem]) rfl ⟨rfl, (((Below.refl _ _).alloc (Nat.le_refl _) _).alloc (by simp) _).alloc (by simp; omega) _⟩
  · have e1 : hiW (a + b) = hiW a + hiW b + 1 := by omega
    have e2 : loW (a + b) + 18446744073709551616 = loW a + loW b := by omega
    have w1 : IntKind.u64.wrap ((loW a : Int) + (loW b : Int)) = (loW (a + b) : Int) := by rw [IntKind.wrap_u64]; omega
    have i1 : (hiW a : Int) + (hiW b : Int) < 18446744073709551615 := by omega
    have i3 : decide ((hiW a : Int) + (hiW b : Int) < (hiW a : Int)) = false := decide_eq_false (by omega)
    have i4 : loW (a + b) < loW a := by omega
    have i5 : ((hiW a : Int) + (hiW b : Int) + 1 == 0) = false := by rw [beq_eq_false_iff_ne]; omega
    have e3 : ((hiW a + hiW b + 1 : Nat) : Int) = (hiW a : Int) + (hiW b : Int) + 1 := by omega
    rw [e1, e3]
    generalize loW (a + b) = L at *
    clear h1 h2 h3 h4 h5 h6 h7 e1 e2 e3 c h
    go_enter Oahg.func144, Oahg.ntmps144
    go_wp2
    exact bodyPost_ret (v := .tuple #[.agg #[.int .u64 ((hiW a : Int) + (hiW b : Int) + 1), .int .u64 L], .bool false]) (by simp [results, Oahg.results144, go_sem]) rfl ⟨rfl, (((Below.refl _ _).alloc (Nat.le_refl _) _).alloc (by simp) _).alloc (by simp; omega) _⟩

end Go.Proofs.Ygcoah
