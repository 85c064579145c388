/-
  THE WALKS OF PACKAGE exact: RoundFlags whole.
-/
import Derived.Test.YgcoahRz
import Derived.Test.YgcoahRo
import Derived.Test.YgcoahRn
import Derived.Test.YgcoahRl
import Derived.Test.YgcoahRt
namespace Go.Proofs.Ygcoah
open Go.RowKit

theorem roundFlags_any {w : World} {a b : Option Addr} {n m ca cb x y : Nat} (E M mode : Nat) (neg : Bool) (h : FOk E M) (hx : NatV w (.slice a n ca) x) (hy : NatV w (.slice b m cb) y) (bx : bl x ≤ 20000) (by0 : bl y ≤ 20000) (hy0 : 0 < y) :
    Calls Oahg.prog 88 #[.agg #[.int .u8 E, .int .u8 M], .int .u8 mode, .agg #[.bool neg, .slice a n ca, .slice b m cb]] w fun r w' => (∃ fl : Int, r = .returned (.tuple #[.int .u64 (roundR E M mode neg x y), .int .u8 fl])) ∧ Below w.heap.size w w' := by
  unfold roundR
  by_cases hz : x = 0
  · rw [if_pos hz]
    exact round_zero E M mode neg h hx hy hy0 hz
  rw [if_neg hz]
  simp only []
  by_cases hov : (biasP E : Int) < max (lgP x y) (eminI E)
  · rw [if_pos hov]
    exact round_over E M mode neg h hx hy bx by0 hy0 hz hov
  rw [if_neg hov]
  by_cases c1 : eminI E ≤ lgC x y (eminI E - 1) (biasP E : Int)
  · exact round_norm E M mode neg h hx hy bx by0 hy0 hz hov c1
  by_cases c2 : lgC x y (eminI E - 1) (biasP E : Int) = eminI E - 1
  · exact round_least E M mode neg h hx hy bx by0 hy0 hz hov c2
  · exact round_tiny E M mode neg h hx hy bx by0 hy0 hz hov (by omega)

end Go.Proofs.Ygcoah
