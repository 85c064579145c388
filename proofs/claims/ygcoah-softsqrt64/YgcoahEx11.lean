/-
  PLAIN: exact.log2's answer, held, serves; the floor that RoundFlags packs is small.
-/
import Derived.Test.YgcoahEx3
import Derived.Test.YgcoahEx5
import Derived.Test.YgcoahEx6
import Derived.Test.YgcoahEx7
import Derived.Test.YgcoahAddN
import Derived.Test.YgcoahPl2
namespace Go.Proofs.Ygcoah
open Go.RowKit

theorem lgP_near (x y : Nat) : lgP x y = (bl x : Int) - bl y ∨ lgP x y = (bl x : Int) - bl y - 1 := by
  unfold lgP; split <;> omega

/-- Held between emin-2 and emax+1, the logarithm gives the same exponent. -/
theorem lgC_max (E x y : Nat) : ((biasP E : Int) < max (lgC x y (eminI E - 1) (biasP E : Int)) (eminI E) ↔ (biasP E : Int) < max (lgP x y) (eminI E)) ∧
    (¬ (biasP E : Int) < max (lgP x y) (eminI E) → max (lgC x y (eminI E - 1) (biasP E : Int)) (eminI E) = max (lgP x y) (eminI E)) := by
  have h := lgP_near x y
  unfold lgC
  split
  · constructor <;> omega
  · split <;> constructor <;> omega

theorem raised_le (mode M x y : Nat) (neg : Bool) (L e : Int) (h : IsLg x y L) (he : L ≤ e) : raisedP mode neg (x * P2 ((M : Int) - e)) (y * P2 (-((M : Int) - e))) ≤ 2 ^ (M + 1) := by
  have h1 : x * P2 (-(L + 1)) < 1 * P2 (L + 1) * y := by rw [Nat.one_mul, Nat.mul_comm (P2 _)]; exact h.2
  rw [scale_lt (c := (M : Int) - e) (k := (e - L).toNat) (l := M + 1) (by omega), Nat.one_mul] at h1
  have h2 : x * P2 ((M : Int) - e) ≤ x * P2 ((M : Int) - e) * 2 ^ (e - L).toNat := Nat.le_mul_of_pos_right _ (pow_pos2 _)
  have h3 : x * P2 ((M : Int) - e) / (y * P2 (-((M : Int) - e))) < 2 ^ (M + 1) := by
    apply Nat.div_lt_of_lt_mul
    rw [Nat.mul_comm (y * _)]
    exact Nat.lt_of_le_of_lt h2 h1
  unfold raisedP
  split <;> omega

theorem bl_P2 (x : Nat) (k : Int) (m : Nat) (hk : k ≤ (m : Int)) : bl (x * P2 k) ≤ bl x + m := by
  unfold P2
  have := bl_shl_le x k.toNat
  omega

theorem bitLen_ext {W : World} {a : Option Addr} {n ca x : Nat} (h : NatV W (.slice a n ca) x) (y : Ext W) : Calls Oahg.prog 65 #[.slice a n ca] y.w fun e w' => e = .returned (.int .i64 (bl x)) ∧ Below y.w.heap.size y.w w' :=
  (bitLenN (h.below y.hb)).mono fun _ _ ⟨he, hw⟩ => ⟨he, by rw [hw]; exact Below.refl _ _⟩

end Go.Proofs.Ygcoah
