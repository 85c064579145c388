/-
  THE BASE: how a big natural number (nat.Nat, a slice of 32-bit limbs) lies in memory; small laws on worlds.
-/
import Derived.Test.YgcoahRows
import Derived.Test.YgcoahLimbs
import Derived.WalkKit
import Derived.WalkSpells
import Derived.WalkLawsBesides
import Derived.Handy
import Derived.BigQuiet
import Derived.Deep.QuietTactic
import Derived.Deep.RegionHeld3
import Derived.Deep.OwnRows
namespace Go.Proofs.Ygcoah
open Go.RowKit

theorem bcell {W w1 : World} (hb : Below W.heap.size W w1) : (∀ b o, b < W.heap.size → w1.cell? ⟨b, o, none⟩ = W.cell? ⟨b, o, none⟩) ∧ (∀ b o, b < W.heap.size → w1.frozen? ⟨b, o, none⟩ = W.frozen? ⟨b, o, none⟩) :=
  ⟨fun b o h => hb.cell (p := ⟨b, o, none⟩) h, fun b o h => hb.frozen (p := ⟨b, o, none⟩) h⟩

/-- The slice (ao, n, cap) holds the limbs f in the world w. -/
structure Lm (w : World) (ao : Option Addr) (n cap : Nat) (f : Nat → Nat) : Prop where
  fits : n ≤ cap
  top : cap ≤ 1000000000
  lim : ∀ i, i < n → f i < 4294967296
  mem : 0 < n → ∃ b off, ao = some ⟨b, off, none⟩ ∧ b < w.heap.size ∧ ∀ i, i < n → w.cell? ⟨b, off + i, none⟩ = some (.int .u32 (f i))

theorem Lm.below {w w' : World} {ao : Option Addr} {n cap : Nat} {f : Nat → Nat} (h : Lm w ao n cap f) (hb : Below w.heap.size w w') : Lm w' ao n cap f := by
  refine ⟨h.fits, h.top, h.lim, fun h0 => ?_⟩
  obtain ⟨b, off, e, hlt, hc⟩ := h.mem h0
  exact ⟨b, off, e, Nat.lt_of_lt_of_le hlt hb.size, fun i hi => (hb.cell (p := ⟨b, off + i, none⟩) hlt).trans (hc i hi)⟩

/-- The slice value v is the natural number x as every answer of package nat is: nil for zero, the top limb not zero. -/
structure NatV (w : World) (v : Value) (x : Nat) : Prop where
  ex : ∃ ao n cap f, v = .slice ao n cap ∧ Lm w ao n cap f ∧ (n = 0 → ao = none ∧ cap = 0) ∧ (0 < n → f (n - 1) ≠ 0) ∧ val f n = x

theorem NatV.below {w w' : World} {v : Value} {x : Nat} (h : NatV w v x) (hb : Below w.heap.size w w') : NatV w' v x := by
  obtain ⟨ao, n, cap, f, e, hl, h0, h1, hv⟩ := h.ex
  exact ⟨ao, n, cap, f, e, hl.below hb, h0, h1, hv⟩

theorem eqNil (w : World) (a : Option Addr) (n c : Nat) : (binOp .eql 54 (.slice a n c) (.slice none 0 0)).run Oahg.prog w = .ok (.bool a.isNone) w :=
  Lib.run_eql_slice_nil w 54 97 a n c 0 0 Oahg.underlying54
theorem neNil (w : World) (a : Option Addr) (n c : Nat) : (binOp .neq 54 (.slice a n c) (.slice none 0 0)).run Oahg.prog w = .ok (.bool (!a.isNone)) w :=
  run_neq_slice_nil_any w 54 97 a n c 0 0 Oahg.underlying54

end Go.Proofs.Ygcoah
