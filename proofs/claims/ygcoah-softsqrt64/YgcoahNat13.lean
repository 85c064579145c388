/-
  THE WALKS OF PACKAGE nat, 13: Sqrt.
-/
import Derived.Test.YgcoahNat12
import Derived.Test.YgcoahNewton
import Derived.Deep.LoopGhost
namespace Go.Proofs.Ygcoah
open Go.RowKit
attribute [local go_sem] eqNil neNil

theorem one_lm (w : World) : Lm (w.alloc (.cells #[.int .u32 1] 97)) (some ⟨w.heap.size, 0, none⟩) 1 1 (fun _ => 1) := by
  refine ⟨Nat.le_refl _, by omega, fun i _ => by show 1 < 4294967296; omega, fun _ => ⟨w.heap.size, 0, rfl, by simp, ?_⟩⟩
  intro i hi
  have e : i = 0 := by omega
  subst e
  rw [Nat.zero_add, World.cell?_alloc_at _ _ _ _ rfl]
  rfl

set_option maxHeartbeats 800000 in
theorem sqrtN {w : World} {a : Option Addr} {n ca : Nat} {x r : Nat} (h : NatV w (.slice a n ca) x) (s : bl x ≤ 30000) (hr : IsSqrt x r) :
    Calls Oahg.prog 104 #[.slice a n ca] w fun e w' => (∃ v, e = .returned (.tuple #[v, .bool (decide (r * r = x))]) ∧ NatV w' v r) ∧ Below w.heap.size w w' := by
  obtain ⟨f, h1, _, h3, h4⟩ := h.open
  go_enter Oahg.func104, Oahg.ntmps104
  go_wp2_with fail
  refine (trim_any a n ca f _ h1).mono ?_
  rintro e w0 ⟨⟨ao', n', cap', rfl, hT⟩, rfl⟩
  have hNx := hT.natV
  rw [h4] at hNx
  have hnone := hNx.isNone
  clear hT h1 h3 h4 h
  by_cases hx0 : x = 0
  · subst hx0
    have e := hNx.zero
    simp at e
    obtain ⟨rfl, rfl, rfl⟩ := e
    have hr0 : r = 0 := by
      have := hr.1
      false_or_by_contra
      have := Nat.mul_pos (show 0 < r by omega) (show 0 < r by omega)
      omega
    subst hr0
    clear hr hnone
    go_wp2
    go_ret2
    exact ⟨⟨_, rfl, NatV.nil _⟩, Below.refl _ _⟩
  · have hnone' : ao'.isNone = false := by rw [hnone]; simp [hx0]
    have hb0 : 0 < bl x := bl_pos x (by omega)
    have hb1 : bl x ≤ 30000 := s
    have HS : Hid (Small x) := Nat.le_trans s (by omega)
    have HR : Hid (IsSqrt x r) := hr
    have hal : Below w0.heap.size w0 (w0.alloc (.cells #[.int .u32 1] 97)) := (Below.refl _ _).alloc (Nat.le_refl _) _
    have hone := one_lm w0
    have hNx1 := hNx.below hal
    have hr1 : 0 < r := hr.le_of (show 1 * 1 ≤ x by omega)
    clear hnone s hr
    go_wp2_with (go_at_call 65; refine (bitLenN hNx1).mono ?_; rintro e w2 ⟨rfl, rfl⟩)
    obtain ⟨k, ek⟩ : ∃ k, k = (bl x + 1) / 2 := ⟨_, rfl⟩
    have ek' : ((bl x : Int) + 1) / 2 = (k : Int) := by omega
    rw [ek']
    refine (lift_any _ 1 1 k (fun _ => 1) _ hone (by omega) (by omega)).mono ?_
    rintro e w2 ⟨⟨v2, rfl, hN2⟩, hb2⟩
    have e1 : val (fun _ => 1) 1 * 2 ^ k = 2 ^ k := by simp [val]
    rw [e1] at hN2
    obtain ⟨a2, n2, c2, rfl⟩ := hN2.form
    have hrk : r ≤ 2 ^ k := by
      refine newton_start HR.out ?_
      rw [← Nat.pow_add]
      refine (bl_le_iff _ _).1 ?_
      omega
    have hbk : bl (2 ^ k) ≤ 20000 := by rw [bl_pow]; omega
    have hpk : 0 < 2 ^ k := Nat.pow_pos (by decide)
    have hB2 : Below w0.heap.size w0 w2 := hal.trans (hb2.mono (by simp))
    generalize 2 ^ k = s0 at *
    clear ek ek' e1 hone hNx1 hb2
    go_wp2_with fail
    go_loopg [2] s0 (fun g v wr => ∃ ao n cap, v = .slice ao n cap ∧ NatV wr (.slice ao n cap) g ∧ r ≤ g ∧ 0 < g ∧ bl g ≤ 20000 ∧ Below w0.heap.size w0 wr)
    case atStart => exact ⟨a2, n2, c2, rfl, hN2, hrk, hpk, hbk, hB2⟩
    case round =>
      obtain ⟨a1, n1, c1, rfl, hNs, hrs, hps, hbs, hb⟩ := hrel
      have hNxr := hNx.below hb
      go_wp2_with fail
      refine (divModN hNxr hNs HS.out hps).mono ?_
      rintro e w3 ⟨⟨v1, v2, rfl, hN3, hN4⟩, hb3⟩
      obtain ⟨a3, n3, c3, rfl⟩ := hN3.form
      have hNs3 := hNs.below hb3
      have hNx3 := hNxr.below hb3
      have hq : bl (x / gk) ≤ 30000 := Nat.le_trans (bl_mono (Nat.div_le_self x gk)) hb1
      go_wp2_with fail
      refine (addN hNs3 hN3 (Nat.le_trans hbs (by omega)) (Nat.le_trans hq (by omega))).mono ?_
      rintro e w4 ⟨⟨v4, rfl, hN5⟩, hb4⟩
      obtain ⟨a4, n4, c4, rfl⟩ := hN5.form
      have hsum : Small (gk + x / gk) := Nat.le_trans (bl_add_le gk (x / gk) 30000 (by omega) hq) (by omega)
      go_wp2_with fail
      refine (shrN hN5 hsum 1 (by omega)).mono ?_
      rintro e w5 ⟨⟨v5, lost, rfl, hN6⟩, hb5⟩
      obtain ⟨a5, n5, c5, rfl⟩ := hN6.form
      have hNs5 := (hNs3.below hb4).below hb5
      have hNx5 := (hNx3.below hb4).below hb5
      rw [Nat.pow_one] at hN6
      have hge := newton_ge HR.out hps
      have HD : Hid (gk ≤ (gk + x / gk) / 2 → gk = r) := fun h => newton_done HR.out hps hrs h
      have hB5 : Below w0.heap.size w0 w5 := ((hb.trans (hb3.mono hb.size)).trans (hb4.mono (by have := hb.size; have := hb3.size; omega))).trans (hb5.mono (by have := hb.size; have := hb3.size; have := hb4.size; omega))
      generalize (gk + x / gk) / 2 = nx at *
      clear hsum hq hN5 hN4 hN3 hNs hNxr hNs3 hNx3 hb3 hb4 hb5 hb
      go_wp2_with fail
      refine (cmpN hN6 hNs5).mono ?_
      rintro e w6 ⟨rfl, hb6⟩
      have hB6 : Below w0.heap.size w0 w6 := hB5.trans (hb6.mono hB5.size)
      by_cases hlt : nx < gk
      · have hc : cmpI nx gk = -1 := cmpI_lt hlt
        have hN66 := hN6.below hb6
        have hbn : bl nx ≤ 20000 := Nat.le_trans (bl_mono (Nat.le_of_lt hlt)) hbs
        go_wp2_with fail
        go_roundg nx
        case measure => omega
        case rel => exact ⟨_, _, _, rfl, hN66, hge, by omega, hbn, hB6⟩
      · have hc : 0 ≤ cmpI nx gk := by
          have := cmpI_neg_iff nx gk; omega
        generalize cmpI nx gk = cc at *
        have hgr : gk = r := HD.out (by omega)
        subst hgr
        have hNs6 := hNs5.below hb6
        have hNx6 := hNx5.below hb6
        go_wp2_with fail
        refine (mulN hNs6 hNs6 (Nat.le_trans hbs (by omega)) (Nat.le_trans hbs (by omega))).mono ?_
        rintro e w7 ⟨⟨v7, rfl, hN7⟩, hb7⟩
        obtain ⟨a7, n7, c7, rfl⟩ := hN7.form
        go_wp2_with fail
        refine (cmpN hN7 (hNx6.below hb7)).mono ?_
        rintro e w8 ⟨rfl, hb8⟩
        have hN9 := (hNs6.below hb7).below hb8
        have HB : Hid (Below w0.heap.size w0 w8) := (hB6.trans (hb7.mono hB6.size)).trans (hb8.mono (by have := hB6.size; have := hb7.size; omega))
        have hz := cmpI_zero_iff (gk * gk) x
        by_cases hw : gk * gk = x
        · have hc0 : cmpI (gk * gk) x = 0 := hz.2 hw
          have HDC : Hid (decide (gk * gk = x) = true) := by unfold Hid; simp [hw]
          clear hw hz
          go_wp2
          go_ret2
          exact ⟨⟨_, by rw [HDC.out]; rfl, hN9⟩, HB.out⟩
        · have hc0 : (cmpI (gk * gk) x == 0) = false := by rw [beq_eq_false_iff_ne]; exact fun h => hw (hz.1 h)
          have HDC : Hid (decide (gk * gk = x) = false) := by unfold Hid; simp [hw]
          clear hw hz
          go_wp2
          go_ret2
          exact ⟨⟨_, by rw [HDC.out]; rfl, hN9⟩, HB.out⟩
end Go.Proofs.Ygcoah
