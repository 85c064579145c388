/-
  THE WALKS OF PACKAGE soft: DivFlags whole.
-/
import Derived.Test.YgcoahDivSa
import Derived.Test.YgcoahDivSb
namespace Go.Proofs.Ygcoah
open Go.RowKit

theorem divFlags_any (E M mode x y : Nat) (w : World) (h : FOk E M) (hx : x < 18446744073709551616) (hy : y < 18446744073709551616) :
    Calls Oahg.prog 45 #[.agg #[.int .u8 E, .int .u8 M], .int .u8 mode, .int .u64 x, .int .u64 y] w fun r w' =>
      (∃ fl : Int, r = .returned (.tuple #[.int .u64 (divR E M mode (unp E M x) (unp E M y)), .int .u8 fl])) ∧ Below w.heap.size w w' := by
  by_cases c : ((unp E M x).cls = 1 ∨ (unp E M x).cls = 2) ∧ ((unp E M y).cls = 1 ∨ (unp E M y).cls = 2)
  · exact divFlags_num E M mode x y w h hx hy c.1 c.2
  · exact divFlags_spec E M mode x y w h hx hy (by omega)

end Go.Proofs.Ygcoah
