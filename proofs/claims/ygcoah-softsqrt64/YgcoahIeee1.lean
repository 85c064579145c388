/-
  THE WALKS OF PACKAGE ieee, 1: Ok, SignBit, Mask, Bias, signed, Inf, MaxFinite, TheNaN.
-/
import Derived.Test.YgcoahBase
import Derived.Test.YgcoahFmt
namespace Go.Proofs.Ygcoah
open Go.RowKit

theorem wrapN (n : Nat) (h : n < 18446744073709551616) : IntKind.u64.wrap (n : Int) = (n : Int) := by
  rw [IntKind.wrap_u64]; omega

theorem wrap_pow (k : Nat) (h : 2 ^ k < 18446744073709551616) : IntKind.u64.wrap ((2 : Int) ^ k) = ((2 ^ k : Nat) : Int) := by
  rw [pow_cast]; exact wrapN _ h

theorem FOk.ints {E M : Nat} (h : FOk E M) : (2 : Int) ≤ (E : Int) ∧ (E : Int) ≤ 11 ∧ (2 : Int) ≤ (M : Int) ∧ (M : Int) ≤ 52 := by
  unfold FOk at h; omega
theorem FOk.ipow {E M : Nat} (h : FOk E M) : 0 ≤ (2 : Int) ^ (E + M) ∧ (2 : Int) ^ (E + M) ≤ 9223372036854775808 := by
  have := h.pow; rw [pow_cast]; generalize 2 ^ (E + M) = p at *; omega
theorem FOk.ipowE {E M : Nat} (h : FOk E M) : 4 ≤ (2 : Int) ^ E ∧ (2 : Int) ^ E ≤ 2048 := by
  have := h.powE; rw [pow_cast]; omega
theorem FOk.ipowM {E M : Nat} (h : FOk E M) : 4 ≤ (2 : Int) ^ M ∧ (2 : Int) ^ M ≤ 4503599627370496 := by
  have := h.powM; rw [pow_cast]; omega
theorem FOk.ipowE1 {E M : Nat} (h : FOk E M) : 2 ≤ (2 : Int) ^ (E - 1) ∧ (2 : Int) ^ (E - 1) ≤ 1024 := by
  have := h.powE1; rw [pow_cast]; omega

set_option maxHeartbeats 400000 in
theorem okT (E M : Nat) (w : World) (h : FOk E M) :
    Calls Oahg.prog 18 #[.agg #[.int .u8 E, .int .u8 M]] w fun r w' => r = .returned (.bool true) ∧ Below w.heap.size w w' := by
  obtain ⟨h1, h2, h3, h4⟩ := h.ints
  go_enter Oahg.func18, Oahg.ntmps18
  go_wp2
  go_ret
  refine ⟨rfl, ?_⟩
  go_grown

set_option maxHeartbeats 400000 in
theorem okF (E M : Nat) (w : World) (h : ¬ FOk E M) :
    Calls Oahg.prog 18 #[.agg #[.int .u8 E, .int .u8 M]] w fun r w' => r = .returned (.bool false) ∧ Below w.heap.size w w' := by
  unfold FOk at h
  by_cases h1 : 2 ≤ E
  · by_cases h2 : E ≤ 11
    · by_cases h3 : 2 ≤ M
      · have h4 : decide ((M : Int) ≤ 52) = false := decide_eq_false (by omega)
        clear h
        go_enter Oahg.func18, Oahg.ntmps18
        go_wp2
        go_ret
        refine ⟨rfl, ?_⟩
        go_grown
      · clear h
        go_enter Oahg.func18, Oahg.ntmps18
        go_wp2
        go_ret
        refine ⟨rfl, ?_⟩
        go_grown
    · clear h
      go_enter Oahg.func18, Oahg.ntmps18
      go_wp2
      go_ret
      refine ⟨rfl, ?_⟩
      go_grown
  · clear h
    go_enter Oahg.func18, Oahg.ntmps18
    go_wp2
    go_ret
    refine ⟨rfl, ?_⟩
    go_grown

theorem ret_int {k : IntKind} {a b : Int} (h : a = b) : Ending.returned (.int k a) = .returned (.int k b) := by rw [h]

set_option maxHeartbeats 400000 in
theorem signBit_any (E M : Nat) (w : World) (h : FOk E M) :
    Calls Oahg.prog 82 #[.agg #[.int .u8 E, .int .u8 M]] w fun r w' => r = .returned (.int .u64 (sbP E M)) ∧ Below w.heap.size w w' := by
  obtain ⟨p1, p2⟩ := h.ipow
  obtain ⟨h1, h2, h3, h4⟩ := h.ints
  go_enter Oahg.func82, Oahg.ntmps82
  go_wp2_with (go_at_call 18; refine (okT _ _ _ h).mono ?_; rintro e w1 ⟨rfl, hb⟩; obtain ⟨hc, hf⟩ := bcell hb)
  go_ret
  exact ⟨ret_int (pow_cast _), ((Below.refl _ _).alloc (Nat.le_refl _) _).trans (hb.mono (by simp))⟩

set_option maxHeartbeats 400000 in
theorem bias_any (E M : Nat) (w : World) (h : FOk E M) :
    Calls Oahg.prog 90 #[.agg #[.int .u8 E, .int .u8 M]] w fun r w' => r = .returned (.int .i16 (biasP E)) ∧ Below w.heap.size w w' := by
  obtain ⟨p1, p2⟩ := h.ipowE1
  obtain ⟨h1, h2, h3, h4⟩ := h.ints
  go_enter Oahg.func90, Oahg.ntmps90
  go_wp2_with (go_at_call 18; refine (okT _ _ _ h).mono ?_; rintro e w1 ⟨rfl, hb⟩; obtain ⟨hc, hf⟩ := bcell hb)
  go_ret
  refine ⟨ret_int ?_, ((Below.refl _ _).alloc (Nat.le_refl _) _).trans (hb.mono (by simp))⟩
  have := h.powE1
  rw [pow_cast]
  unfold biasP
  omega

set_option maxHeartbeats 400000 in
theorem mask_any (E M : Nat) (w : World) (h : FOk E M) :
    Calls Oahg.prog 100 #[.agg #[.int .u8 E, .int .u8 M]] w fun r w' => r = .returned (.int .u64 (mskP E M)) ∧ Below w.heap.size w w' := by
  obtain ⟨h1, h2, h3, h4⟩ := h.ints
  go_enter Oahg.func100, Oahg.ntmps100
  go_wp2_with (first | (go_at_call 18; refine (okT _ _ _ h).mono ?_; rintro e w1 ⟨rfl, hb⟩; obtain ⟨hc, hf⟩ := bcell hb; have hz := hb.size) | (go_at_call 82; refine (signBit_any _ _ _ h).mono ?_; rintro e w2 ⟨rfl, hb2⟩))
  go_ret
  refine ⟨ret_int ?_, (((Below.refl _ _).alloc (Nat.le_refl _) _).trans (hb.mono (by simp))).trans (hb2.mono (by simp at hz; omega))⟩
  have := sbP_bd h
  rw [mskP_eq]
  simp only [IntKind.wrap_u64]
  omega

set_option maxHeartbeats 400000 in
theorem signed_any (E M x : Nat) (neg : Bool) (w : World) (h : FOk E M) (hx : x < 2 ^ (E + M)) :
    Calls Oahg.prog 92 #[.agg #[.int .u8 E, .int .u8 M], .bool neg, .int .u64 x] w fun r w' => r = .returned (.int .u64 (x + sgnP E M neg : Nat)) ∧ Below w.heap.size w w' := by
  have hp := h.pow
  have hor := or_sign E M x neg hx
  cases neg with
  | true =>
    have HO : Hid (bits .or .u64 (x : Int) (sbP E M : Int) = ((x + sgnP E M true : Nat) : Int)) := by
      unfold Hid
      rw [u64_or_nat _ _ (by omega) (by unfold sbP; omega), ← hor]
      rfl
    have HX : Hid (x < 2 ^ (E + M)) := hx
    clear hor hp hx
    go_enter Oahg.func92, Oahg.ntmps92
    go_wp2_with (go_at_call 82; refine (signBit_any _ _ _ h).mono ?_; rintro e w2 ⟨rfl, hb2⟩)
    go_ret
    exact ⟨ret_int HO.out, ((Below.refl _ _).alloc (Nat.le_refl _) _).trans (hb2.mono (by simp))⟩
  | false =>
    clear hor hp hx
    go_enter Oahg.func92, Oahg.ntmps92
    go_wp2
    go_ret
    exact ⟨ret_int rfl, ((Below.refl _ _).alloc (Nat.le_refl _) _)⟩

theorem infP_cast {E M : Nat} (h : FOk E M) : ((2 : Int) ^ E - 1) * 2 ^ M = (infP E M : Int) ∧ 0 ≤ ((2 : Int) ^ E - 1) * 2 ^ M ∧ ((2 : Int) ^ E - 1) * 2 ^ M < 9223372036854775808 := by
  have h1 := h.powE
  have h2 := infP_lt E M
  have h3 := h.pow
  have e : ((2 : Int) ^ E - 1) * 2 ^ M = (infP E M : Int) := by
    unfold infP
    rw [pow_cast, pow_cast, Int.natCast_mul]
    congr 1
    omega
  exact ⟨e, by rw [e]; omega, by rw [e]; omega⟩

set_option maxHeartbeats 400000 in
theorem inf_any (E M : Nat) (neg : Bool) (w : World) (h : FOk E M) :
    Calls Oahg.prog 54 #[.agg #[.int .u8 E, .int .u8 M], .bool neg] w fun r w' => r = .returned (.int .u64 (infS E M neg)) ∧ Below w.heap.size w w' := by
  obtain ⟨p1, p2⟩ := h.ipowE
  obtain ⟨e1, p3, p4⟩ := infP_cast h
  obtain ⟨h1, h2, h3, h4⟩ := h.ints
  have hl := infP_lt E M
  have HL : Hid (infP E M < 2 ^ (E + M)) := hl
  clear hl
  go_enter Oahg.func54, Oahg.ntmps54
  go_wp2_with (go_at_call 18; refine (okT _ _ _ h).mono ?_; rintro e w1 ⟨rfl, hb⟩; obtain ⟨hc, hf⟩ := bcell hb)
  refine (signed_any E M (infP E M) neg _ h HL.out).mono ?_
  rintro e w2 ⟨rfl, hb2⟩
  go_wp2
  go_ret
  exact ⟨ret_int rfl, (((Below.refl _ _).alloc (Nat.le_refl _) _).trans (hb.mono (by simp))).trans (hb2.mono (by have := hb.size; simp at this; omega))⟩

set_option maxHeartbeats 400000 in
theorem maxFinite_any (E M : Nat) (neg : Bool) (w : World) (h : FOk E M) :
    Calls Oahg.prog 140 #[.agg #[.int .u8 E, .int .u8 M], .bool neg] w fun r w' => r = .returned (.int .u64 (maxS E M neg)) ∧ Below w.heap.size w w' := by
  obtain ⟨p1, p2⟩ := h.ipowE
  obtain ⟨e1, p3, p4⟩ := infP_cast h
  obtain ⟨h1, h2, h3, h4⟩ := h.ints
  have hl := infP_lt E M
  have hp := infP_pos h
  have e2 : (infP E M : Int) - 1 = ((infP E M - 1 : Nat) : Int) := by omega
  have HL : Hid (infP E M - 1 < 2 ^ (E + M)) := by unfold Hid; omega
  rw [e1] at p3 p4
  clear hl
  go_enter Oahg.func140, Oahg.ntmps140
  go_wp2_with (go_at_call 18; refine (okT _ _ _ h).mono ?_; rintro e w1 ⟨rfl, hb⟩; obtain ⟨hc, hf⟩ := bcell hb)
  refine (signed_any E M (infP E M - 1) neg _ h HL.out).mono ?_
  rintro e w2 ⟨rfl, hb2⟩
  go_wp2
  go_ret
  exact ⟨ret_int rfl, (((Below.refl _ _).alloc (Nat.le_refl _) _).trans (hb.mono (by simp))).trans (hb2.mono (by have := hb.size; simp at this; omega))⟩

theorem nan_or {E M : Nat} (h : FOk E M) : bits .or .u64 (infS E M false : Int) ((2 : Int) ^ (M - 1)) = (nanP E M : Int) := by
  have h1 := infP_lt E M
  have h2 := h.pow
  have h3 := h.powM
  have h4 : 2 ^ (M - 1) < 2 ^ M := Nat.pow_lt_pow_right (by decide) (by unfold FOk at h; omega)
  have e : infS E M false = infP E M := rfl
  rw [e, pow_cast, u64_or_nat _ _ (by omega) (by omega), nat_join M _ _ (by unfold infP; exact Nat.mul_mod_left _ _) h4]
  rfl

set_option maxHeartbeats 400000 in
theorem theNaN_any (E M : Nat) (w : World) (h : FOk E M) :
    Calls Oahg.prog 52 #[.agg #[.int .u8 E, .int .u8 M]] w fun r w' => r = .returned (.int .u64 (nanP E M)) ∧ Below w.heap.size w w' := by
  obtain ⟨h1, h2, h3, h4⟩ := h.ints
  have hno := nan_or h
  have hp : IntKind.u64.wrap ((2 : Int) ^ (M - 1)) = 2 ^ (M - 1) := by
    have h3 := h.powM
    have h4 : 2 ^ (M - 1) ≤ 2 ^ M := Nat.pow_le_pow_right (by decide) (by omega)
    rw [pow_cast]
    exact wrapN _ (by omega)
  have hw : IntKind.u8.wrap ((M : Int) - 1) = ((M - 1 : Nat) : Int) := by rw [IntKind.wrap_u8]; omega
  have hm : min (M - 1) 64 = M - 1 := by omega
  go_enter Oahg.func52, Oahg.ntmps52
  go_wp2_with (go_at_call 18; refine (okT _ _ _ h).mono ?_; rintro e w1 ⟨rfl, hb⟩; obtain ⟨hc, hf⟩ := bcell hb)
  have s0 : w1.cell? ⟨w.heap.size, 0, none⟩ = some (.int .u8 E) := by rw [hc _ _ (by simp)]; simp [go_sem]
  have s1 : w1.cell? ⟨w.heap.size, 1, none⟩ = some (.int .u8 M) := by rw [hc _ _ (by simp)]; simp [go_sem]
  go_region_held3 (fun w' => w'.cell? ⟨w.heap.size, 0, none⟩ = some (.int .u8 E) ∧ w'.cell? ⟨w.heap.size, 1, none⟩ = some (.int .u8 M))
    (first | (exact ⟨cell_later hb2 (by assumption), cell_later hb2 (by assumption)⟩) | go_keep)
    ((go_at_call 54; refine (inf_any E M false _ h).mono ?_; rintro e w2 ⟨rfl, hb2⟩))
  go_wp2
  go_ret
  exact ⟨rfl, ((((Below.refl _ _).alloc (Nat.le_refl _) _).trans (hb.mono (by simp))).drew).trans (hb2.mono (by have := hb.size; simp at this ⊢; omega))⟩

end Go.Proofs.Ygcoah
