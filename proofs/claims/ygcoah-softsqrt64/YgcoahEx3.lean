/-
  THE WALKS OF PACKAGE exact, 3: shift, log2.
-/
import Derived.Test.YgcoahEx2
namespace Go.Proofs.Ygcoah
open Go.RowKit

set_option maxHeartbeats 800000 in
theorem shiftN {w : World} {a b : Option Addr} {n m ca cb x y : Nat} (k : Int) (hx : NatV w (.slice a n ca) x) (hy : NatV w (.slice b m cb) y) (sx : Small x) (sy : Small y) (k1 : -60000 ≤ k) (k2 : k ≤ 60000) :
    Calls Oahg.prog 102 #[.slice a n ca, .slice b m cb, .int .i64 k] w fun e w' => (∃ v1 v2, e = .returned (.tuple #[v1, v2]) ∧ NatV w' v1 (x * P2 k) ∧ NatV w' v2 (y * P2 (-k))) ∧ Below w.heap.size w w' := by
  by_cases c : k < 0
  · obtain ⟨j, hj⟩ : ∃ j : Nat, -k = (j : Int) := ⟨(-k).toNat, by omega⟩
    have e1 : P2 k = 1 := by unfold P2; rw [show k.toNat = 0 by omega]
    have e2 : P2 (-k) = 2 ^ j := by unfold P2; rw [hj, Int.toNat_natCast]
    have w1 : IntKind.i64.wrap (-k) = (j : Int) := by rw [IntWalk.i64_in _ (by omega)]; exact hj
    have w2 : IntKind.u16.wrap (j : Int) = (j : Int) := IntWalk.u16_in _ (by omega)
    rw [e1, e2, Nat.mul_one]
    have hs := shlN hy sy j (by omega)
    clear e1 e2
    go_enter Oahg.func102, Oahg.ntmps102
    go_wp2_with fail
    refine hs.mono ?_
    rintro e w1 ⟨⟨v, rfl, hv⟩, hb⟩
    obtain ⟨ao, vn, vc, rfl⟩ := hv.form
    go_wp2
    go_ret2
    exact ⟨⟨_, _, rfl, hx.below hb, hv⟩, hb⟩
  · obtain ⟨j, hj⟩ : ∃ j : Nat, k = (j : Int) := ⟨k.toNat, by omega⟩
    subst hj
    have e1 : P2 (-(j : Int)) = 1 := by unfold P2; rw [show (-(j : Int)).toNat = 0 by omega]
    have e2 : P2 (j : Int) = 2 ^ j := by unfold P2; rw [Int.toNat_natCast]
    have w2 : IntKind.u16.wrap (j : Int) = (j : Int) := IntWalk.u16_in _ (by omega)
    have c' : decide ((j : Int) < 0) = false := decide_eq_false c
    rw [e1, e2, Nat.mul_one]
    have hs := shlN hx sx j (by omega)
    clear e1 e2
    go_enter Oahg.func102, Oahg.ntmps102
    go_wp2_with fail
    refine hs.mono ?_
    rintro e w1 ⟨⟨v, rfl, hv⟩, hb⟩
    obtain ⟨ao, vn, vc, rfl⟩ := hv.form
    go_wp2
    go_ret2
    exact ⟨⟨_, _, rfl, hv, hy.below hb⟩, hb⟩

/-- What log2 answers. -/
def lgC (x y : Nat) (lo hi : Int) : Int :=
  if hi + 1 < (bl x : Int) - (bl y : Int) then hi + 1 else if (bl x : Int) - (bl y : Int) < lo then lo - 1 else lgP x y

set_option maxHeartbeats 1600000 in
theorem log2N {w : World} {a b : Option Addr} {n m ca cb x y : Nat} (lo hi : Int) (hx : NatV w (.slice a n ca) x) (hy : NatV w (.slice b m cb) y) (sx : Small x) (sy : Small y) (l1 : -5000 ≤ lo) (l2 : lo ≤ 5000) (h1 : -5000 ≤ hi) (h2 : hi ≤ 5000) :
    Calls Oahg.prog 61 #[.slice a n ca, .slice b m cb, .int .i64 lo, .int .i64 hi] w fun e w' => e = .returned (.int .i64 (lgC x y lo hi)) ∧ Below w.heap.size w w' := by
  have bx := bitLenN hx
  have by' := bitLenN hy
  have sx' : bl x ≤ 32000 := sx
  have sy' : bl y ≤ 32000 := sy
  unfold lgC lgP
  obtain ⟨d, hd⟩ : ∃ d : Int, d = (bl x : Int) - (bl y : Int) := ⟨_, rfl⟩
  have wd : IntKind.i64.wrap ((bl x : Int) - (bl y : Int)) = d := by rw [IntWalk.i64_in _ (by omega)]; exact hd.symm
  rw [← hd]
  have wh : IntKind.i64.wrap (hi + 1) = hi + 1 := IntWalk.i64_in _ (by omega)
  by_cases c1 : hi + 1 < d
  · rw [if_pos c1]
    clear hd
    generalize bl x = X at *
    generalize bl y = Y at *
    go_enter Oahg.func61, Oahg.ntmps61
    go_wp2_with fail
    refine bx.mono ?_
    rintro e w1 ⟨rfl, rfl⟩
    go_wp2_with fail
    refine by'.mono ?_
    rintro e w1 ⟨rfl, rfl⟩
    go_wp2
    go_ret
    exact ⟨rfl, Below.refl _ _⟩
  · rw [if_neg c1]
    have b1 : decide (hi + 1 < d) = false := decide_eq_false c1
    have wl : IntKind.i64.wrap (lo - 1) = lo - 1 := IntWalk.i64_in _ (by omega)
    by_cases c2 : d < lo
    · rw [if_pos c2]
      clear hd c1
      generalize bl x = X at *
      generalize bl y = Y at *
      go_enter Oahg.func61, Oahg.ntmps61
      go_wp2_with fail
      refine bx.mono ?_
      rintro e w1 ⟨rfl, rfl⟩
      go_wp2_with fail
      refine by'.mono ?_
      rintro e w1 ⟨rfl, rfl⟩
      go_wp2
      go_ret
      exact ⟨rfl, Below.refl _ _⟩
    · rw [if_neg c2]
      have b2 : decide (d < lo) = false := decide_eq_false c2
      have d1 : -5000 ≤ d := by omega
      have d2 : d ≤ 5001 := by omega
      have wn : IntKind.i64.wrap (-d) = -d := IntWalk.i64_in _ (by omega)
      have wm : IntKind.i64.wrap (d - 1) = d - 1 := IntWalk.i64_in _ (by omega)
      have hsh := shiftN (-d) hx hy sx sy (by omega) (by omega)
      rw [Int.neg_neg] at hsh
      clear hd c1 c2
      generalize bl x = X at *
      generalize bl y = Y at *
      by_cases c3 : x * P2 (-d) < y * P2 d
      · rw [if_pos c3]
        have e3 : cmpI (x * P2 (-d)) (y * P2 d) = -1 := cmpI_lt c3
        clear c3
        generalize x * P2 (-d) = p at *
        generalize y * P2 d = q at *
        go_enter Oahg.func61, Oahg.ntmps61
        go_wp2_with fail
        refine bx.mono ?_
        rintro e w1 ⟨rfl, rfl⟩
        go_wp2_with fail
        refine by'.mono ?_
        rintro e w1 ⟨rfl, rfl⟩
        go_wp2_with fail
        refine hsh.mono ?_
        rintro e w2 ⟨⟨v1, v2, rfl, hv1, hv2⟩, hb⟩
        obtain ⟨a1, n1, k1, rfl⟩ := hv1.form
        obtain ⟨a2, n2, k2, rfl⟩ := hv2.form
        go_wp2_with fail
        refine (cmpN hv1 hv2).mono ?_
        rintro e w3 ⟨rfl, hb3⟩
        have hB := hb.trans (hb3.mono hb.size)
        go_wp2
        go_ret
        exact ⟨rfl, hB⟩
      · rw [if_neg c3]
        have e3 : decide (cmpI (x * P2 (-d)) (y * P2 d) < 0) = false := decide_eq_false (by rw [cmpI_neg_iff]; exact c3)
        clear c3
        generalize x * P2 (-d) = p at *
        generalize y * P2 d = q at *
        go_enter Oahg.func61, Oahg.ntmps61
        go_wp2_with fail
        refine bx.mono ?_
        rintro e w1 ⟨rfl, rfl⟩
        go_wp2_with fail
        refine by'.mono ?_
        rintro e w1 ⟨rfl, rfl⟩
        go_wp2_with fail
        refine hsh.mono ?_
        rintro e w2 ⟨⟨v1, v2, rfl, hv1, hv2⟩, hb⟩
        obtain ⟨a1, n1, k1, rfl⟩ := hv1.form
        obtain ⟨a2, n2, k2, rfl⟩ := hv2.form
        go_wp2_with fail
        refine (cmpN hv1 hv2).mono ?_
        rintro e w3 ⟨rfl, hb3⟩
        have hB := hb.trans (hb3.mono hb.size)
        go_wp2
        go_ret
        exact ⟨rfl, hB⟩

end Go.Proofs.Ygcoah
