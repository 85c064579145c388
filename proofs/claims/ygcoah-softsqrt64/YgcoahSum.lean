/-
  THE WALKS OF PACKAGE soft: sum whole.
-/
import Derived.Test.YgcoahSumA1
import Derived.Test.YgcoahSumA2
import Derived.Test.YgcoahSumA3
import Derived.Test.YgcoahSumB1
import Derived.Test.YgcoahSumB2
import Derived.Test.YgcoahSumB3
namespace Go.Proofs.Ygcoah
open Go.RowKit

/-- What sum answers, x being the greater. -/
def sumX (E M mode : Nat) (nx : Bool) (ex : Int) (mx : Nat) (ny : Bool) (ey : Int) (my : Nat) : Nat :=
  if nx = ny then softR E M mode nx (ex - 64 + (bl (mx + shrJ my (min (ex - ey).toNat 255)) : Int)) (jamP (mx + shrJ my (min (ex - ey).toNat 255)))
  else if shrJ my (min (ex - ey).toNat 255) = mx then sgnP E M (decide (mode = 4))
  else softR E M mode nx (ex - 64 + (bl (mx - shrJ my (min (ex - ey).toNat 255)) : Int)) (jamP (mx - shrJ my (min (ex - ey).toNat 255)))

def sumR (E M mode : Nat) (na : Bool) (ea : Int) (ma : Nat) (nb : Bool) (eb : Int) (mb : Nat) : Nat :=
  if ea < eb ∨ (ea = eb ∧ ma < mb) then sumX E M mode nb eb mb na ea ma else sumX E M mode na ea ma nb eb mb

theorem shrJ_half (my g : Nat) (hg : 0 < g) (hy : my < 170141183460469231731687303715884105728) : shrJ my g < 85070591730234615865843651857942052864 := by
  have h2 : 2 ≤ 2 ^ g := Nat.pow_le_pow_right (n := 2) (i := 1) (by decide) hg
  have h3 : my / 2 ^ g ≤ my / 2 := Nat.div_le_div_left h2 (by decide)
  unfold shrJ
  generalize my / 2 ^ g = q at *
  split
  · omega
  · rw [or_one]; omega

theorem shrJ_zero (a : Nat) : shrJ a 0 = a := by unfold shrJ; simp [Nat.mod_one]

theorem sum_any (E M mode ma mb : Nat) (na nb : Bool) (ea eb : Int) (w : World) (h : FOk E M) (ha : ma < 170141183460469231731687303715884105728) (hb : mb < 170141183460469231731687303715884105728) (ha0 : 85070591730234615865843651857942052864 ≤ ma) (hb0 : 85070591730234615865843651857942052864 ≤ mb) (ha1 : -2000 ≤ ea) (ha2 : ea ≤ 2000) (hb1 : -2000 ≤ eb) (hb2 : eb ≤ 2000) :
    Calls Oahg.prog 132 #[.agg #[.int .u8 E, .int .u8 M], .int .u8 mode, .agg #[.bool na, .int .i16 ea, .int .u64 (hiW ma), .int .u64 (loW ma)], .agg #[.bool nb, .int .i16 eb, .int .u64 (hiW mb), .int .u64 (loW mb)]] w fun r w' =>
      (∃ fl : Int, r = .returned (.tuple #[.int .u64 (sumR E M mode na ea ma nb eb mb), .int .u8 fl])) ∧ Below w.heap.size w w' := by
  unfold sumR
  by_cases c : ea < eb ∨ (ea = eb ∧ ma < mb)
  · rw [if_pos c]
    by_cases c1 : ea < eb
    · have hlt : shrJ ma (min (eb - ea).toNat 255) < mb := Nat.lt_of_lt_of_le (shrJ_half ma _ (by omega) ha) hb0
      by_cases c2 : (eb - ea) ≤ 255
      · by_cases cs : nb = na
        · subst cs
          unfold sumX
          rw [if_pos rfl]
          exact sum_A1_eq E M mode mb ma _ nb eb ea w h hb ha (by omega) hb1 hb2 (by omega) (by omega) (by omega)
        · unfold sumX
          rw [if_neg cs, if_neg (by omega)]
          exact sum_A1_ne E M mode mb ma _ nb na eb ea w h hb ha (by omega) hb1 hb2 (by omega) (by omega) (by omega) cs hlt
      · by_cases cs : nb = na
        · subst cs
          unfold sumX
          rw [if_pos rfl]
          exact sum_A3_eq E M mode mb ma _ nb eb ea w h hb ha (by omega) hb1 hb2 ha1 ha2 (by omega) (by omega)
        · unfold sumX
          rw [if_neg cs, if_neg (by omega)]
          exact sum_A3_ne E M mode mb ma _ nb na eb ea w h hb ha (by omega) hb1 hb2 ha1 ha2 (by omega) (by omega) cs hlt
    · have e : ea = eb := by omega
      have hm : ma < mb := by omega
      subst e
      have e0 : min (ea - ea).toNat 255 = 0 := by omega
      unfold sumX
      rw [e0]
      by_cases cs : nb = na
      · subst cs
        rw [if_pos rfl]
        exact sum_A2_eq E M mode mb ma _ nb ea w h hb ha (by omega) ha1 ha2 rfl hm
      · rw [if_neg cs, if_neg (by rw [shrJ_zero]; omega)]
        exact sum_A2_ne E M mode mb ma _ nb na ea w h hb ha (by omega) ha1 ha2 rfl hm cs (by rw [shrJ_zero]; exact hm)
  · rw [if_neg c]
    by_cases c1 : eb < ea
    · have hlt : shrJ mb (min (ea - eb).toNat 255) < ma := Nat.lt_of_lt_of_le (shrJ_half mb _ (by omega) hb) ha0
      by_cases c2 : (ea - eb) ≤ 255
      · by_cases cs : na = nb
        · subst cs
          unfold sumX
          rw [if_pos rfl]
          exact sum_B1_eq E M mode ma mb _ na ea eb w h ha hb (by omega) ha1 ha2 (by omega) (by omega) (by omega)
        · unfold sumX
          rw [if_neg cs, if_neg (by omega)]
          exact sum_B1_ne E M mode ma mb _ na nb ea eb w h ha hb (by omega) ha1 ha2 (by omega) (by omega) (by omega) cs hlt
      · by_cases cs : na = nb
        · subst cs
          unfold sumX
          rw [if_pos rfl]
          exact sum_B3_eq E M mode ma mb _ na ea eb w h ha hb (by omega) ha1 ha2 hb1 hb2 (by omega) (by omega)
        · unfold sumX
          rw [if_neg cs, if_neg (by omega)]
          exact sum_B3_ne E M mode ma mb _ na nb ea eb w h ha hb (by omega) ha1 ha2 hb1 hb2 (by omega) (by omega) cs hlt
    · have e : ea = eb := by omega
      have hm : mb ≤ ma := by omega
      subst e
      have e0 : min (ea - ea).toNat 255 = 0 := by omega
      unfold sumX
      rw [e0]
      by_cases cs : na = nb
      · subst cs
        rw [if_pos rfl]
        exact sum_B2_eq E M mode ma mb _ na ea w h ha hb (by omega) ha1 ha2 rfl hm
      · rw [if_neg cs]
        by_cases cz : shrJ mb 0 = ma
        · rw [if_pos cz]
          exact sum_B2_z E M mode ma mb _ na nb ea w h ha hb (by omega) rfl hm cs cz
        · rw [if_neg cz]
          exact sum_B2_ne E M mode ma mb _ na nb ea w h ha hb (by omega) ha1 ha2 rfl hm cs (by rw [shrJ_zero] at cz ⊢; omega)
end Go.Proofs.Ygcoah
