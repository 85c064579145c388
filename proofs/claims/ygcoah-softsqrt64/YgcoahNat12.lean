/-
  THE WALKS OF PACKAGE nat, 12: DivMod; every function once more, said of numbers ('NatV').
-/
import Derived.Test.YgcoahNat11
namespace Go.Proofs.Ygcoah
open Go.RowKit
attribute [local go_sem] eqNil neNil

/-- A number of at most 32000 bits. -/
def Small (x : Nat) : Prop := bl x ≤ 32000

theorem Small.of {x k : Nat} (h : x < 2 ^ k) (hk : k ≤ 32000) : Small x := Nat.le_trans ((bl_le_iff x k).2 h) hk
theorem bl_mono {x y : Nat} (h : x ≤ y) : bl x ≤ bl y := (bl_le_iff _ _).2 (Nat.lt_of_le_of_lt h ((bl_le_iff y _).1 (Nat.le_refl _)))
theorem Small.le {x y : Nat} (h : Small y) (hx : x ≤ y) : Small x := Nat.le_trans (bl_mono hx) h
theorem bl_mul_le (x y : Nat) : bl (x * y) ≤ bl x + bl y := by
  rw [bl_le_iff, Nat.pow_add]
  have h1 := (bl_le_iff x _).1 (Nat.le_refl _)
  have h2 := (bl_le_iff y _).1 (Nat.le_refl _)
  exact Nat.mul_lt_mul'' h1 h2
theorem bl_pow (k : Nat) : bl (2 ^ k) = k + 1 := bl_eq_of _ _ (Nat.pow_lt_pow_right (by decide) (by omega)) (Nat.le_refl _)
theorem bl_shl_le (x k : Nat) : bl (x * 2 ^ k) ≤ bl x + k := by
  rw [bl_le_iff, Nat.pow_add]
  exact Nat.mul_lt_mul_of_pos_right ((bl_le_iff x _).1 (Nat.le_refl _)) (Nat.pow_pos (by decide))
theorem bl_add_le (x y k : Nat) (h1 : bl x ≤ k) (h2 : bl y ≤ k) : bl (x + y) ≤ k + 1 := by
  rw [bl_le_iff] at *
  rw [Nat.pow_succ]; omega

theorem Small.len {f : Nat → Nat} {n : Nat} (hl : ∀ i, i < n → f i < 4294967296) (ht : 0 < n → f (n - 1) ≠ 0) (h : Small (val f n)) : n ≤ 1000 := by
  by_cases h0 : 0 < n
  · have h1 := bl_limbs f n hl h0 (ht h0)
    have h2 := ht h0
    have h3 := bl_pos (f (n - 1)) (by omega)
    have h4 : bl (val f n) ≤ 32000 := h
    omega
  · omega

theorem NatV.form {w : World} {v : Value} {x : Nat} (h : NatV w v x) : ∃ ao n cap, v = .slice ao n cap := by
  obtain ⟨ao, n, cap, f, e, _⟩ := h.ex
  exact ⟨ao, n, cap, e⟩

theorem NatV.open {w : World} {ao : Option Addr} {n cap : Nat} {x : Nat} (h : NatV w (.slice ao n cap) x) : ∃ f, Lm w ao n cap f ∧ (n = 0 → ao = none ∧ cap = 0) ∧ (0 < n → f (n - 1) ≠ 0) ∧ val f n = x := by
  obtain ⟨ao', n', cap', f, e, h1, h2, h3, h4⟩ := h.ex
  simp at e
  obtain ⟨rfl, rfl, rfl⟩ := e
  exact ⟨f, h1, h2, h3, h4⟩

theorem NatV.nil (w : World) : NatV w (.slice none 0 0) 0 := ⟨none, 0, 0, fun _ => 0, rfl, ⟨by omega, by omega, fun i hi => by omega, fun h => by omega⟩, fun _ => ⟨rfl, rfl⟩, fun h => by omega, rfl⟩

theorem NatV.isNone {w : World} {ao : Option Addr} {n cap : Nat} {x : Nat} (h : NatV w (.slice ao n cap) x) : ao.isNone = decide (x = 0) := by
  obtain ⟨f, h1, h2, h3, h4⟩ := h.open
  by_cases h0 : n = 0
  · obtain ⟨rfl, rfl⟩ := h2 h0
    subst h0
    rw [← h4]
    rfl
  · obtain ⟨b, off, rfl, _, _⟩ := h1.at (by omega)
    have := val_pos f n (by omega) (h3 (by omega))
    simp
    omega

theorem NatV.zero {w : World} {v : Value} (h : NatV w v 0) : v = .slice none 0 0 := by
  obtain ⟨ao, n, cap, rfl⟩ := h.form
  obtain ⟨f, h1, h2, h3, h4⟩ := h.open
  have h0 : n = 0 := by
    false_or_by_contra
    have := val_pos f n (by omega) (h3 (by omega))
    omega
  obtain ⟨rfl, rfl⟩ := h2 h0
  rw [h0]

section
variable {w : World} {a b : Option Addr} {n m ca cb : Nat} {x y : Nat}

theorem bitLenN (h : NatV w (.slice a n ca) x) : Calls Oahg.prog 65 #[.slice a n ca] w fun e w' => e = .returned (.int .i64 (bl x)) ∧ w' = w := by
  obtain ⟨f, h1, _, _, h4⟩ := h.open
  rw [← h4]
  exact bitLen_any a n ca f w h1

theorem bitN (h : NatV w (.slice a n ca) x) : Calls Oahg.prog 107 #[.slice a n ca, .int .i64 0] w fun e w' => e = .returned (.bool (decide (x % 2 = 1))) ∧ w' = w := by
  obtain ⟨f, h1, _, _, h4⟩ := h.open
  rw [← h4]
  exact bit_any a n ca f w h1

theorem cmpN (h : NatV w (.slice a n ca) x) (k : NatV w (.slice b m cb) y) : Calls Oahg.prog 103 #[.slice a n ca, .slice b m cb] w fun e w' => e = .returned (.int .i8 (cmpI x y)) ∧ Below w.heap.size w w' := by
  obtain ⟨f, h1, _, _, h4⟩ := h.open
  obtain ⟨g, k1, _, _, k4⟩ := k.open
  rw [← h4, ← k4]
  exact cmp_any a b n ca m cb f g w h1 k1

theorem takeN (h : NatV w (.slice a n ca) x) : Calls Oahg.prog 119 #[.slice a n ca] w fun e w' => (∃ v, e = .returned v ∧ NatV w' v x) ∧ Below w.heap.size w w' := by
  obtain ⟨f, h1, _, _, h4⟩ := h.open
  rw [← h4]
  exact take_any a n ca f w h1

theorem succN (h : NatV w (.slice a n ca) x) (s : Small x) : Calls Oahg.prog 105 #[.slice a n ca] w fun e w' => (∃ v, e = .returned v ∧ NatV w' v (x + 1)) ∧ Below w.heap.size w w' := by
  obtain ⟨f, h1, _, h3, h4⟩ := h.open
  rw [← h4] at s ⊢
  have := s.len h1.lim h3
  exact succ_any a n ca f w h1 (by omega)

theorem addN (h : NatV w (.slice a n ca) x) (k : NatV w (.slice b m cb) y) (s : Small x) (t : Small y) : Calls Oahg.prog 135 #[.slice a n ca, .slice b m cb] w fun e w' => (∃ v, e = .returned v ∧ NatV w' v (x + y)) ∧ Below w.heap.size w w' := by
  obtain ⟨f, h1, _, h3, h4⟩ := h.open
  obtain ⟨g, k1, _, k3, k4⟩ := k.open
  rw [← h4] at s ⊢
  rw [← k4] at t ⊢
  have := s.len h1.lim h3
  have := t.len k1.lim k3
  exact add_any a b n ca m cb f g w h1 k1 (by omega) (by omega)

theorem subN (h : NatV w (.slice a n ca) x) (k : NatV w (.slice b m cb) y) : Calls Oahg.prog 136 #[.slice a n ca, .slice b m cb] w fun e w' => (∃ v, e = .returned (.tuple #[v, .bool (decide (y ≤ x))]) ∧ NatV w' v (x - y)) ∧ Below w.heap.size w w' := by
  obtain ⟨f, h1, _, h3, h4⟩ := h.open
  obtain ⟨g, k1, _, k3, k4⟩ := k.open
  rw [← h4, ← k4]
  exact sub_any a b n ca m cb f g w h1 k1

theorem mulN (h : NatV w (.slice a n ca) x) (k : NatV w (.slice b m cb) y) (s : Small x) (t : Small y) : Calls Oahg.prog 40 #[.slice a n ca, .slice b m cb] w fun e w' => (∃ v, e = .returned v ∧ NatV w' v (x * y)) ∧ Below w.heap.size w w' := by
  obtain ⟨f, h1, _, h3, h4⟩ := h.open
  obtain ⟨g, k1, _, k3, k4⟩ := k.open
  rw [← h4] at s ⊢
  rw [← k4] at t ⊢
  have := s.len h1.lim h3
  have := t.len k1.lim k3
  exact mul_any a b n ca m cb f g w h1 k1 (by omega) (by omega)

theorem shlN (h : NatV w (.slice a n ca) x) (s : Small x) (k : Nat) (hk : k < 65536) : Calls Oahg.prog 74 #[.slice a n ca, .int .u16 k] w fun e w' => (∃ v, e = .returned v ∧ NatV w' v (x * 2 ^ k)) ∧ Below w.heap.size w w' := by
  obtain ⟨f, h1, _, h3, h4⟩ := h.open
  rw [← h4] at s ⊢
  have := s.len h1.lim h3
  exact shl_any a n ca k f w h1 (by omega) hk

theorem liftN (h : NatV w (.slice a n ca) x) (s : Small x) (k : Nat) (hk : k ≤ 100000000) : Calls Oahg.prog 122 #[.slice a n ca, .int .i64 k] w fun e w' => (∃ v, e = .returned v ∧ NatV w' v (x * 2 ^ k)) ∧ Below w.heap.size w w' := by
  obtain ⟨f, h1, _, h3, h4⟩ := h.open
  rw [← h4] at s ⊢
  have := s.len h1.lim h3
  exact lift_any a n ca k f w h1 (by omega) hk

theorem shrN (h : NatV w (.slice a n ca) x) (s : Small x) (k : Nat) (hk : k < 32) : Calls Oahg.prog 76 #[.slice a n ca, .int .u16 k] w fun e w' => (∃ v lost, e = .returned (.tuple #[v, .bool lost]) ∧ NatV w' v (x / 2 ^ k)) ∧ Below w.heap.size w w' := by
  obtain ⟨f, h1, _, h3, h4⟩ := h.open
  rw [← h4] at s ⊢
  have := s.len h1.lim h3
  exact shr_any a n ca k f w h1 (by omega) hk

end

set_option maxHeartbeats 400000 in
theorem divModN {w : World} {a b : Option Addr} {n m ca cb : Nat} {x y : Nat} (h : NatV w (.slice a n ca) x) (k : NatV w (.slice b m cb) y) (s : Small x) (hy : 0 < y) :
    Calls Oahg.prog 73 #[.slice a n ca, .slice b m cb] w fun e w' => (∃ v1 v2, e = .returned (.tuple #[v1, v2, .bool true]) ∧ NatV w' v1 (x / y) ∧ NatV w' v2 (x % y)) ∧ Below w.heap.size w w' := by
  obtain ⟨f, h1, _, h3, h4⟩ := h.open
  obtain ⟨g, k1, _, k3, k4⟩ := k.open
  go_enter Oahg.func73, Oahg.ntmps73
  go_wp2_with fail
  refine (trim_any a n ca f _ h1).mono ?_
  rintro e w0 ⟨⟨ao', n', cap', rfl, hT⟩, rfl⟩
  go_wp2_with fail
  refine (trim_any b m cb g _ k1).mono ?_
  rintro e w0 ⟨⟨bo', m', cbp', rfl, hT2⟩, rfl⟩
  have hNx := hT.natV
  have hNy := hT2.natV
  rw [h4] at hNx
  rw [k4] at hNy
  obtain ⟨hl, hz, htop, hle, hv⟩ := hT
  obtain ⟨hl2, hz2, htop2, hle2, hv2⟩ := hT2
  rw [h4] at hv
  rw [k4] at hv2
  have hm0 : 0 < m' := by
    false_or_by_contra
    have e : m' = 0 := by omega
    rw [e] at hv2
    simp [val] at hv2
    omega
  obtain ⟨b2, o2, rfl, hlt2, hc2⟩ := hl2.at hm0
  have hn' : n' ≤ 1000 := Small.len hl.lim htop (by rw [hv]; exact s)
  have HS : Hid (Small x) := s
  have HV : Hid (val f n' = x) := hv
  have HV2 : Hid (val g m' = y) := hv2
  have HT2 : Hid (g (m' - 1) ≠ 0) := htop2 hm0
  have HC2 : Hid (∀ i, i < m' → w0.cell? ⟨b2, o2 + i, none⟩ = some (.int .u32 (g i))) := hc2
  clear hv hv2 hz hz2 htop htop2 hc2 h4 k4 h3 k3 s hle hle2 h1 k1
  go_wp2_with fail
  refine (cmpN hNx hNy).mono ?_
  rintro e w1 ⟨rfl, hb1⟩
  by_cases hlt : x < y
  · have hc : cmpI x y = -1 := cmpI_lt hlt
    have HQ : Hid (x / y = 0 ∧ x % y = x) := ⟨Nat.div_eq_of_lt hlt, Nat.mod_eq_of_lt hlt⟩
    have hNx1 := hNx.below hb1
    have hlx1 := hl.below hb1
    go_wp2_with fail
    refine (takeN hNx1).mono ?_
    rintro e w2 ⟨⟨v, rfl, hN2⟩, hb2⟩
    go_wp2
    go_ret3
    refine ⟨⟨_, _, rfl, ?_, ?_⟩, hb1.trans (hb2.mono hb1.size)⟩
    · rw [HQ.out.1]; exact NatV.nil _
    · rw [HQ.out.2]; exact hN2
  · have hc : 0 ≤ cmpI x y := by
      have := cmpI_neg_iff x y; omega
    generalize cmpI x y = cc at *
    by_cases hm1 : m' = 1
    · subst hm1
      have c0 : w1.cell? ⟨b2, o2, none⟩ = some (.int .u32 (g 0)) := (hb1.cell (p := ⟨b2, o2, none⟩) hlt2).trans (HC2.out 0 (by omega))
      have g0 := hl2.lim 0 (by omega)
      have hg0 : 0 < g 0 := by have := HT2.out; simp at this; omega
      have hl1 := hl.below hb1
      have HG : Hid (g 0 = y) := by unfold Hid; rw [← HV2.out]; simp [val]
      go_wp2_with fail
      refine (divLimb_any ao' n' cap' (g 0) f _ hl1 (by omega) hg0 g0).mono ?_
      rintro e w2 ⟨⟨v, rfl, hN2⟩, hb2⟩
      have hrem : val f n' % g 0 < 4294967296 := by have := Nat.mod_lt (val f n') hg0; omega
      have HR : Hid (val f n' % g 0 = x % y) := by unfold Hid; rw [HV.out, HG.out]
      rw [HV.out, HG.out] at hN2
      generalize val f n' % g 0 = r at *
      go_wp2_with fail
      refine (fromU64_any r _ (by omega)).mono ?_
      rintro e w3 ⟨⟨v3, rfl, hN3⟩, hb3⟩
      rw [HR.out] at hN3
      go_wp2
      go_ret3
      exact ⟨⟨_, _, rfl, hN2.below hb3, hN3⟩, (hb1.trans (hb2.mono hb1.size)).trans (hb3.mono (by have := hb1.size; have := hb2.size; omega))⟩
    · have hm1' : ((m' : Int) == 1) = false := by rw [beq_eq_false_iff_ne]; omega
      have hl1 := hl.below hb1
      have hl21 := hl2.below hb1
      have hmn : m' ≤ n' := by
        false_or_by_contra
        have := val_lt_of_len f g n' m' (by omega) hl.lim HT2.out
        rw [HV.out, HV2.out] at this
        omega
      go_wp2_with fail
      refine (divLong_any _ _ n' cap' m' cbp' f g _ hl1 hl21 (by omega) (by omega) HT2.out hmn).mono ?_
      rintro e w2 ⟨⟨v1, v2, rfl, hN1, hN2⟩, hb2⟩
      rw [HV.out, HV2.out] at hN1 hN2
      go_wp2
      go_ret3
      exact ⟨⟨_, _, rfl, hN1, hN2⟩, hb1.trans (hb2.mono hb1.size)⟩

end Go.Proofs.Ygcoah
